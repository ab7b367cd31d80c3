/- labels.Text of labels that are right. -/
import Derived.Test.YtgmdgaioiifgnaaGreatFind
import Derived.Test.YtgmdgaioiifgnaaGreatOnce
import Derived.Deep.RegionHeld3
set_option linter.unusedVariables false
set_option linter.unusedSimpArgs false
namespace Go.Proofs.YtgmdgaioiifgnaaGreat
open Go.RowKit Go.Proofs.YtgmdgaioiifgnaaGreatW.PrintWords
def nameB : ByteArray := ⟨#[95, 95, 110, 97, 109, 101, 95, 95]⟩
def partTxt (x : Lab) : ByteArray := x.n ++ ⟨#[61, 34]⟩ ++ escS x.v ++ ⟨#[34]⟩
def isNm (x : Lab) : Bool := decide (x.n = nameB)
def partsL (l : List Lab) : List ByteArray := (l.filter fun x => !isNm x).map partTxt
theorem partsL_take_yes {l : List Lab} {k : Nat} (hk : k < l.length) (h : isNm (rdLab l k) = true) : partsL (l.take (k + 1)) = partsL (l.take k) := by
  rw [List.take_succ_eq_append_getElem hk, partsL, List.filter_append, ← rdLab_eq hk]
  simp [h, partsL]
theorem partsL_take_no {l : List Lab} {k : Nat} (hk : k < l.length) (h : isNm (rdLab l k) = false) : partsL (l.take (k + 1)) = partsL (l.take k) ++ [partTxt (rdLab l k)] := by
  rw [List.take_succ_eq_append_getElem hk, partsL, List.filter_append, ← rdLab_eq hk]
  simp [h, partsL]
theorem partsL_len (l : List Lab) : (partsL l).length ≤ l.length := by
  rw [partsL, List.length_map]; exact List.length_filter_le _ _
def joinB (l : List ByteArray) : ByteArray := ⟨(Lib.join (l.map (·.data.toList)) [44]).toArray⟩
def textLab (l : List Lab) : ByteArray :=
  if (partsL l).length = 0 ∧ (valueLab l nameB).size ≠ 0 then valueLab l nameB else valueLab l nameB ++ ⟨#[123]⟩ ++ joinB (partsL l) ++ ⟨#[125]⟩
/-- What labels that are right are like. -/
theorem check_small {l : List Lab} (h : checkLab l = 0) : l.length ≤ 20 ∧ ∀ k, k < l.length → (rdLab l k).n.size ≤ 40 ∧ (rdLab l k).v.size ≤ 100 := by
  have he : eachLab false l = 0 := by
    unfold checkLab at h
    by_cases h1 : eachLab false l = 0
    · exact h1
    · rw [if_pos h1] at h; exact absurd h h1
  unfold eachLab at he
  by_cases h20 : 20 < l.length
  · rw [if_pos h20] at he; exact absurd he (by decide)
  · rw [if_neg h20] at he
    refine ⟨by omega, fun k hk => ?_⟩
    have hf : l.findSome? (badLab false) = none := by
      cases hh : l.findSome? (badLab false) with
      | none => rfl
      | some e =>
        rw [hh] at he
        simp only at he
        obtain ⟨x, hx, hb⟩ := List.exists_of_findSome?_eq_some hh
        unfold badLab at hb
        split at hb
        · injection hb with hb; omega
        · split at hb
          · injection hb with hb; omega
          · cases hb
    have hb := List.findSome?_eq_none_iff.1 hf _ (List.getElem_mem hk)
    rw [← rdLab_eq hk] at hb
    unfold badLab at hb
    split at hb
    · cases hb
    · rename_i hn
      split at hb
      · cases hb
      · rename_i h100
        have hnm : isName (rdLab l k).n = true := by simp at hn; simpa using hn.1
        have : (rdLab l k).n.size ≤ 40 := by
          simp only [isName, Bool.and_eq_true, decide_eq_true_eq] at hnm
          exact hnm.2
        exact ⟨this, by omega⟩
theorem escS_size (s : ByteArray) : (escS s).size ≤ 2 * s.size := by
  rw [escS, strOfNums_size]; exact (escP_len s s.size).2
theorem partTxt_size (x : Lab) : (partTxt x).size = x.n.size + 2 + (escS x.v).size + 1 := by
  simp [partTxt, ByteArray.size_append]; rfl
/-- The parts so far. -/
structure TSt (w wr : World) (v : Value) (xs : List ByteArray) : Prop where
  row : Row Kd.string 9 w wr v xs
  below : Below w.heap.size w wr
theorem TSt.to {w w1 w2 : World} {v : Value} {xs : List ByteArray} (h : TSt w w1 v xs) (hb : Below w1.heap.size w1 w2) : TSt w w2 v xs := ⟨h.row.below hb, below_step h.below hb⟩
theorem keepT {W U : World} {a b : Addr} {u v : Value} (h1 : W.cell? a = some u) (h2 : W.cell? b = some v) (hb : Below W.heap.size W U) : U.cell? a = some u ∧ U.cell? b = some v := ⟨pw_cell_below hb h1, pw_cell_below hb h2⟩
theorem six_lit (W : World) : Kd.string.C (W.alloc (.cells #[.string ⟨#[92]⟩, .string ⟨#[92, 92]⟩, .string ⟨#[34]⟩, .string ⟨#[92, 34]⟩, .string ⟨#[10]⟩, .string ⟨#[92, 110]⟩] 9)) (some ⟨W.heap.size, 0, none⟩) 6 [⟨#[92]⟩, ⟨#[92, 92]⟩, ⟨#[34]⟩, ⟨#[92, 34]⟩, ⟨#[10]⟩, ⟨#[92, 110]⟩] := by
  have ho := own_lit_of (enc := Value.string) W W.heap.size 9 [⟨#[92]⟩, ⟨#[92, 92]⟩, ⟨#[34]⟩, ⟨#[92, 34]⟩, ⟨#[10]⟩, ⟨#[92, 110]⟩] (Nat.le_refl _) (by simp)
  have hR : Kd.string.R 9 _ W.heap.size (fun _ => True) _ _ := Kd.R_of_own ho (fun _ _ => trivial)
  obtain ⟨A, c, he, _, hC⟩ := Kd.R_reads hR
  injection he with e1 e2 e3
  subst e1
  exact hC
theorem block_below' {w w1 : World} {g : Nat} {o : Obj} (h : w.heap[g]? = some o) (hb : Below w.heap.size w w1) : w1.heap[g]? = some o := (hb.block g (Array.getElem?_eq_some_iff.1 h).1).trans h
theorem text_after {w W w5 : World} {v : Value} {xs : List ByteArray} {M : Nat} {x y : Value} (h : TSt w W v xs) (hM : W.heap[M]? = some (.cells #[x, y] 64 (0, 0))) (hg : W.grownBy w5 v.ownBlock) : w5.cell? ⟨M, 0, none⟩ = some x ∧ w5.cell? ⟨M, 1, none⟩ = some y := by
  obtain ⟨inner, ho⟩ := Kd.R_own h.row
  have q := kept_obj hM ho (fun cells he => by injection he with _ he; exact absurd he (by decide)) hg
  exact ⟨by rw [row_cell q]; rfl, by rw [row_cell q]; rfl⟩
theorem valueLab_size {l : List Lab} {m : ByteArray} (h : checkLab l = 0) : (valueLab l m).size ≤ 100 := by
  unfold valueLab
  split
  · rename_i hh
    exact ((check_small h).2 _ (findLab_lt hh)).2
  · exact Nat.zero_le _
theorem partsL_size {l : List Lab} (h : checkLab l = 0) : ∀ x ∈ partsL l, x.size ≤ 243 := by
  intro x hx
  simp only [partsL, List.mem_map, List.mem_filter] at hx
  obtain ⟨y, ⟨hy, _⟩, rfl⟩ := hx
  obtain ⟨k, hk, rfl⟩ := List.mem_iff_getElem.1 hy
  have := (check_small h).2 k hk
  rw [rdLab_eq hk] at this
  have h2 := escS_size l[k].v
  rw [partTxt_size]; omega
theorem join_len (sep : List UInt8) (m : Nat) : ∀ l : List (List UInt8), (∀ x ∈ l, x.length ≤ m) → (Lib.join l sep).length ≤ l.length * (m + sep.length)
  | [], _ => by simp [Lib.join, List.intercalate]
  | [x], h => by rw [Lib.join_one]; have := h x (by simp); simp; omega
  | x :: y :: r, h => by
    have ih := join_len sep m (y :: r) (fun z hz => h z (List.mem_cons_of_mem _ hz))
    have hx := h x (by simp)
    rw [Lib.join_cons] at ih ⊢
    simp only [Lib.joinTail, List.map_cons, List.flatten_cons, List.length_append, List.length_cons] at ih ⊢
    have e : (r.length + 1 + 1) * (m + sep.length) = (r.length + 1) * (m + sep.length) + (m + sep.length) := Nat.succ_mul _ _
    omega
theorem text_cells {w wr : World} {B : Option Addr} {n d : Nat} {xs : List ByteArray} (h : TSt w wr (.slice B n d) xs) (hn : n = xs.length) (h0 : n ≠ 0) : ∃ bk, B = some ⟨bk, 0, none⟩ ∧ bk < wr.heap.size ∧ (∀ (j : Nat) x, xs[j]? = some x → wr.cell? ⟨bk, 0 + j, none⟩ = some (.string x)) ∧ xs.length ≤ d := by
  have ho := Kd.own_of_R h.row
  subst hn
  rcases ho.2 with ⟨_, h1⟩ | ⟨g, cap, cur, hv, _, hh, hnc, _, hcs, ht⟩
  · exact absurd h1 h0
  · injection hv with e1 e2 e3
    subst e1; subst e3
    refine ⟨g, rfl, (Array.getElem?_eq_some_iff.1 hh).1, fun j x hx => ?_, hnc⟩
    have hj := (List.getElem?_eq_some_iff.1 hx).1
    rw [row_cell hh, Nat.zero_add]
    have h2 : (cur.toList.take (xs.length * 1))[j]? = some (.string x) := by rw [ht, encs, List.getElem?_map, hx]; rfl
    rwa [List.getElem?_take_of_lt (by omega)] at h2
set_option maxHeartbeats 4000000 in
set_option maxRecDepth 100000 in
theorem text_calls (A : Option Addr) (c : Nat) (l : List Lab) (w : World) (hC : kLab.C w A l.length l) (hS : SmallL l) (hz : checkLab l = 0) :
    Calls Tryz.prog 36 #[.slice A l.length c] w fun e w' => e = .returned (.tuple #[.string (textLab l), .int .i64 0]) ∧ Below w.heap.size w w' := by
  have HC := Aside0.mk hC
  have HS := Aside0.mk hS
  have HZ := Aside0.mk hz
  obtain ⟨h20, hsm⟩ := check_small hz
  have HSM := Aside0.mk hsm
  have hz0 := Aside0.mk hz
  have HB1 := Aside0.mk (below_alloc (Below.refl w.heap.size w) (.cells #[.slice A l.length c] 60))
  have HN := Aside0.mk (show (w.alloc (.cells #[.slice A l.length c] 60)).cell? ⟨w.heap.size, 0, none⟩ = some (.slice A l.length c) by rw [row_cell (heap_alloc_new w _)]; rfl)
  have hinfo : (Tryz.prog.info? 9).map (fun i => (i.zero, i.size, i.bytes)) = some (some (.string ⟨#[]⟩), 1, 16) := by kernel_rfl
  clear hC hS hz hsm
  go_enter Tryz.func36, Tryz.ntmps36
  go_wp2_with (first | (go_at_call 62; refine (check1_calls w.heap.size A c l _ HN.out (Kd.C_below HC.out HB1.out) HS.out).mono ?_; rw [HZ.out]; rintro e w2 ⟨rfl, hb2⟩; have HB2 := Aside0.mk (below_step HB1.out hb2); clear hb2) | (go_at_call 63; refine (valueLab_calls A c l nameB _ (Kd.C_below HC.out HB2.out) (by omega)).mono ?_; rintro e w3 ⟨rfl, hb3⟩; have HB3 := Aside0.mk (below_step HB2.out hb3); clear hb3))
  have HT := Aside0.mk (show TSt w w3 (.slice none 0 0) (partsL (l.take 0)) from ⟨Row.nil _ _ _ _, HB3.out⟩)
  clear HB1 HB2 HN
  go_loopw [6, 19] (fun v i wr => ∃ (k n : Nat) (B : Option Addr) (d : Nat), k ≤ l.length ∧ i = .int .i64 k ∧ v = .slice B n d ∧ Aside0 (n = (partsL (l.take k)).length) ∧ Aside0 (TSt w wr (.slice B n d) (partsL (l.take k)))) (fun _ i _ => l.length - (intOf i).toNat)
  case atStart => exact ⟨0, 0, none, 0, by omega, rfl, rfl, ⟨rfl⟩, HT⟩
  case round =>
    clear HT HB3
    obtain ⟨k, n, B, d, hk, rfl, rfl, HNL, HT⟩ := hrel
    by_cases hlt : k < l.length
    · have hltb : (k : Int) < (l.length : Int) := by omega
      obtain ⟨ad, rfl, h0, h1⟩ := at_lab (Kd.C_below HC.out HT.out.below) k hlt
      by_cases hnm : isNm (rdLab l k) = true
      · have HX := Aside0.mk (partsL_take_yes hlt hnm)
        have hnb : ((rdLab l k).n.toList == [95, 95, 110, 97, 109, 101, 95, 95]) = true := by
          have : (rdLab l k).n = nameB := by simpa [isNm] using hnm
          rw [this, nameB, Lib.toList_data]; rfl
        clear hnm
        go_wp2_with fail
        go_roundw
        case rel => exact ⟨k + 1, n, B, d, by omega, by go_num, rfl, ⟨by rw [HX.out]; exact HNL.out⟩, ⟨by rw [HX.out]; exact HT.out.to (below_alloc (Below.refl _ _) _)⟩⟩
        case measure => simp [intOf]; omega
      · have hnm : isNm (rdLab l k) = false := by simpa using hnm
        have HX := Aside0.mk (partsL_take_no hlt hnm)
        have hnb : ((rdLab l k).n.toList == [95, 95, 110, 97, 109, 101, 95, 95]) = false := by
          have h2 : (rdLab l k).n ≠ nameB := by simpa [isNm] using hnm
          refine beq_false_of_ne (fun he => h2 ?_)
          rw [Lib.toList_data] at he
          cases hh : (rdLab l k).n
          rw [hh] at he
          simp only at he
          rw [nameB]
          congr 1
          exact Array.toList_inj.1 he
        clear hnm
        obtain ⟨hsn, hsv⟩ := HSM.out k hlt
        have hse := escS_size (rdLab l k).v
        have hs1 : ¬ 9223372036854775807 < (rdLab l k).n.size + 2 := by omega
        have hs2 : ¬ 9223372036854775807 < (rdLab l k).n.size + 2 + (escS (rdLab l k).v).size := by omega
        have hs3 : ¬ 9223372036854775807 < (rdLab l k).n.size + 2 + (escS (rdLab l k).v).size + 1 := by omega
        have hvs : (rdLab l k).v.size ≤ 35184372088832 := by omega
        clear hsn hsv hse
        go_wp2_with fail
        have hMh := heap_alloc_new wr (.cells #[.string (rdLab l k).n, .string (rdLab l k).v] 64)
        have x0 : (wr.alloc (.cells #[.string (rdLab l k).n, .string (rdLab l k).v] 64)).cell? ⟨wr.heap.size, 0, none⟩ = some (.string (rdLab l k).n) := by rw [row_cell hMh]; rfl
        have x1 : (wr.alloc (.cells #[.string (rdLab l k).n, .string (rdLab l k).v] 64)).cell? ⟨wr.heap.size, 1, none⟩ = some (.string (rdLab l k).v) := by rw [row_cell hMh]; rfl
        have HW := Aside0.mk (HT.out.to (below_alloc (Below.refl wr.heap.size wr) (.cells #[.string (rdLab l k).n, .string (rdLab l k).v] 64)))
        have HM := Aside0.mk hMh
        clear hMh h0 h1 HT
        generalize wr.alloc (.cells #[.string (rdLab l k).n, .string (rdLab l k).v] 64) = W at *
        generalize wr.heap.size = M at *
        have HTT := Aside0.mk (show Tryz.prog.underlying 44 = some (.slice 9) by kernel_rfl)
        have HBG := Aside0.mk (show ((partsL (l.take k)).length + 1) * 16 ≤ 140737488355328 by have := partsL_len (l.take k); have := List.length_take_le k l; omega)
        have HL1 := Aside0.mk (show (partsL (l.take k) ++ [partTxt (rdLab l k)]).length = n + 1 by rw [List.length_append, ← HNL.out]; rfl)
        go_region_held3 (fun U => U.cell? ⟨M, 0, none⟩ = some (.string (rdLab l k).n) ∧ U.cell? ⟨M, 1, none⟩ = some (.string (rdLab l k).v))
          (first | exact keepT x0 x1 (below_drew (Below.refl _ _)) | exact keepT x0 x1 hbw2 | exact keepT x0 x1 hbw3 | exact keepT x0 x1 (below_alloc hbw3 _) | exact s5 | go_keep)
          (first
            | (go_at_call 64; refine (newReplacer_calls _ _ _ (six_lit W.drew)).mono ?_; rintro e w2 ⟨rb, ob, c', rfl, hR, h6, hne, hle, hb2⟩; have hbw2 := below_step (below_alloc (below_drew (Below.refl W.heap.size W)) _) hb2; have HR := Aside0.mk hR; have H6 := Aside0.mk h6; clear hR h6)
            | (go_at_call 65; refine (replace_calls rb ob c' _ _ _ _ HR.out H6.out hne hvs).mono ?_; rintro e w3 ⟨rfl, hg3⟩; have hbw3 := hbw2.grown hg3 hbw2.size (fun i hi => by injection hi with hi; simp at hle; omega))
            | (refine Kd.R_append_step Kd.string (w0 := w) w.heap.size (by simp [Region.wanted]) _ _ 44 9 _ 16 rfl HTT.out hinfo (by kernel_rfl) (by decide) (by omega) _ (partsL (l.take k)) (partTxt (rdLab l k)) [.string (partTxt (rdLab l k))] (fun _ => True) (fun _ => False) (by simp [Act.eval, Act.put]) (by simp [Act.eval, Act.put]) rfl (fun _ h => h.elim) (fun _ _ => trivial) (HW.out.to hbw3).row (HW.out.to hbw3).below (HW.out.to hbw3).below.size HBG.out ?_; intro v1 w5 k1 k2 k3 k4; obtain ⟨A5, c5, h5⟩ := Kd.R_slice k1; rw [HL1.out] at h5; subst h5; have s5 := text_after (HW.out.to hbw3) (block_below' HM.out hbw3) k3; go_split_ands))
        have HK5 := Aside0.mk (show TSt w w5 (.slice A5 (n + 1) c5) (partsL (l.take (k + 1))) by rw [HX.out]; exact ⟨k1, k2⟩)
        have HN5 := Aside0.mk (show n + 1 = (partsL (l.take (k + 1))).length by rw [HX.out]; exact HL1.out.symm)
        clear k1 k2 k3 k4 hbw2 hbw3 hb2 hg3 HR H6 HW x0 x1
        go_wp2_with fail
        go_roundw
        case rel => exact ⟨k + 1, n + 1, A5, c5, by omega, by go_num, rfl, HN5, HK5⟩
        case measure => simp [intOf]; omega
    · obtain rfl : k = l.length := by omega
      rw [List.take_length] at HNL HT
      have hvl := valueLab_size (m := nameB) hz0.out
      have hps := partsL_size hz0.out
      by_cases hn0 : n = 0
      · subst hn0
        have hp0 : partsL l = [] := List.eq_nil_of_length_eq_zero HNL.out.symm
        by_cases hv0 : (valueLab l nameB).size = 0
        · have HX := Aside0.mk (show textLab l = valueLab l nameB ++ ⟨#[123]⟩ ++ ⟨#[]⟩ ++ ⟨#[125]⟩ by rw [textLab, if_neg (by simp [hv0]), hp0]; rfl)
          have hve : (valueLab l nameB).toList = [] := List.eq_nil_of_length_eq_zero (by rw [Lib.toList_data, ← Lib.size_eq, hv0])
          clear hv0 hp0
          go_wp2_with (go_at_call 66; refine (Tryz.strings_Join_none B d _ _).mono ?_; rintro e w4 ⟨rfl, rfl⟩)
          go_ret2
          exact ⟨by rw [HX.out]; rfl, HT.out.below⟩
        · have HX := Aside0.mk (show textLab l = valueLab l nameB by rw [textLab, if_pos ⟨by rw [hp0]; rfl, hv0⟩])
          have hve := nonempty_of (valueLab l nameB) hv0
          clear hv0 hp0
          go_wp2_with fail
          go_ret2
          exact ⟨by rw [HX.out]; rfl, HT.out.below⟩
      · have HX := Aside0.mk (show textLab l = valueLab l nameB ++ ⟨#[123]⟩ ++ joinB (partsL l) ++ ⟨#[125]⟩ by rw [textLab, if_neg (by rw [← HNL.out]; exact fun h => hn0 h.1)])
        have hn0b : ((n : Int) == 0) = false := beq_false_of_ne (by omega)
        obtain ⟨bk, hB, hbk, hcells, hcap⟩ := text_cells HT.out HNL.out hn0
        subst hB
        have HCL := Aside0.mk hcells
        have HNX := Aside0.mk hn0
        clear hcells hn0
        have hnle : n ≤ 20 := by rw [HNL.out]; have := partsL_len l; omega
        have hjl : (Lib.join ((partsL l).map (·.data.toList)) [44]).length ≤ 6000 := by
          have h1 := join_len [44] 243 ((partsL l).map (·.data.toList)) (fun x hx => by
            obtain ⟨y, hy, rfl⟩ := List.mem_map.1 hx
            rw [← Lib.size_eq]; exact hps y hy)
          rw [List.length_map, ← HNL.out] at h1
          have : n * (243 + ([44] : List UInt8).length) ≤ 20 * 244 := Nat.mul_le_mul hnle (Nat.le_refl _)
          omega
        have hjs : (joinB (partsL l)).size ≤ 6000 := by rw [joinB, Lib.size_eq]; simpa using hjl
        have HJL := Aside0.mk hjl
        have hs1 : ¬ 9223372036854775807 < (valueLab l nameB).size + 1 := by omega
        have hs2 : ¬ 9223372036854775807 < (valueLab l nameB).size + 1 + (joinB (partsL l)).size := by omega
        have hs3 : ¬ 9223372036854775807 < (valueLab l nameB).size + 1 + (joinB (partsL l)).size + 1 := by omega
        clear hjl hjs hps hvl hnle
        have hJC := Aside0.mk (Tryz.strings_Join bk 0 d (partsL l) ⟨#[44]⟩ wr HCL.out hbk (by have := partsL_len l; omega) hcap (by have := HJL.out; show (Lib.join ((partsL l).map (·.data.toList)) [44]).length ≤ _; omega))
        rw [← HNL.out] at hJC
        go_wp2_with (go_at_call 66; refine hJC.out.mono ?_; rintro e w4 ⟨he, hb4⟩; obtain rfl : e = .returned (.string (joinB (partsL l))) := he)
        go_ret2
        exact ⟨by rw [HX.out]; rfl, below_step HT.out.below hb4⟩
end Go.Proofs.YtgmdgaioiifgnaaGreat
