/- (*strings.byteStringReplacer).Replace: printed by rep.py. -/
import Derived.Test.YtgmdgaioiifgnaaGreatCnt
import Derived.Test.YtgmdgaioiifgnaaGreatIns0
import Derived.WalkSpells
import Derived.OwnWalk
import Derived.Shelf.Spec.SlicesInsert
set_option linter.unusedVariables false
set_option linter.unusedSimpArgs false
namespace Go.Proofs.YtgmdgaioiifgnaaGreat
open Go.RowKit Go.Proofs.YtgmdgaioiifgnaaGreatW.PrintWords
/-- The replacer of labels.Text, as it is read: for each byte what takes its place, and which bytes are sought. -/
structure BSR (w : World) (bb : Nat) : Prop where
  yes : ∀ c : Nat, isEsc c = true → ∃ ad k, w.cell? ⟨bb, c, none⟩ = some (.slice (some ad) 2 k) ∧ w.cell? ad = some (.int .u8 92) ∧ w.cell? (ad.add 1) = some (.int .u8 (escX c))
  no : ∀ c : Nat, c < 256 → isEsc c = false → w.cell? ⟨bb, c, none⟩ = some (.slice none 0 0)
  seek : ∃ ad k, w.cell? ⟨bb, 256, none⟩ = some (.slice (some ad) 3 k) ∧ ∀ j, j < 3 → w.cell? (ad.add j) = some (.string ⟨#[escK j]⟩)
theorem BSR.below {w w1 : World} {bb : Nat} (h : BSR w bb) (hb : Below w.heap.size w w1) : BSR w1 bb := by
  obtain ⟨h1, h2, ad, k, h3, h4⟩ := h
  exact ⟨fun c hc => by
    obtain ⟨ad, k, g1, g2, g3⟩ := h1 c hc
    exact ⟨ad, k, pw_cell_below hb g1, pw_cell_below hb g2, pw_cell_below hb g3⟩, fun c hc hn => pw_cell_below hb (h2 c hc hn), ad, k, pw_cell_below hb h3, fun j hj => pw_cell_below hb (h4 j hj)⟩
/-- The buffer: its row holds what has been written, and more. -/
structure BufSt (w0 w : World) (g cap : Nat) (xs : List Int) : Prop where
  cells : ∃ cur, w.heap[g]? = some (.cells cur 5 (0, 0)) ∧ cur.size = cap ∧ cur.toList.take xs.length = nums .u8 xs
  below : Below w0.heap.size w0 w
  big : w0.heap.size ≤ g
theorem BufSt.to {w0 w w1 : World} {g cap : Nat} {xs : List Int} (h : BufSt w0 w g cap xs) (hb : Below w.heap.size w w1) : BufSt w0 w1 g cap xs := by
  obtain ⟨⟨cur, h1, h2⟩, h3, h4⟩ := h
  exact ⟨⟨cur, (hb.block _ (Array.getElem?_eq_some_iff.1 h1).1).trans h1, h2⟩, below_then h3 h3.size hb, h4⟩
theorem BufSt.frozen {w0 w : World} {g cap : Nat} {xs : List Int} (h : BufSt w0 w g cap xs) (j : Nat) : w.frozen? ⟨g, j, none⟩ = false := by
  obtain ⟨⟨cur, h1, h2⟩, h3, h4⟩ := h
  simp [World.frozen?, h1]
theorem BufSt.cell {w0 w : World} {g cap : Nat} {xs : List Int} (h : BufSt w0 w g cap xs) (j : Nat) (hj : j < cap) : ∃ v, w.cell? ⟨g, j, none⟩ = some v := by
  obtain ⟨⟨cur, h1, h2, _⟩, h3, h4⟩ := h
  exact ⟨cur.toList[j]'(by simp; omega), by rw [row_cell h1, List.getElem?_eq_getElem]⟩
theorem take_put (L xs ys : List Value) (h : L.take xs.length = xs) (hl : xs.length + ys.length ≤ L.length) : (L.take xs.length ++ ys ++ L.drop (xs.length + ys.length)).take (xs.length + ys.length) = xs ++ ys := by
  rw [h, show xs.length + ys.length = (xs ++ ys).length from by simp, List.take_left]
theorem nums_len (l : List Int) : (nums .u8 l).length = l.length := by simp [nums]
theorem BufSt.put {w0 w : World} {g cap : Nat} {xs : List Int} (ys : List Int) (h : BufSt w0 w g cap xs) (hl : xs.length + ys.length ≤ cap) {cur : Array Value} (hc : w.heap[g]? = some (.cells cur 5 (0, 0))) :
    BufSt w0 (w.setRow g (cur.toList.take xs.length ++ nums .u8 ys ++ cur.toList.drop (xs.length + ys.length)).toArray) g cap (xs ++ ys) := by
  obtain ⟨⟨cur', h1, h2, h3⟩, h4, h5⟩ := h
  rw [hc] at h1
  injection h1 with h1
  injection h1 with h1
  subst h1
  have hcl : cur.toList.length = cap := by rw [Array.length_toList]; exact h2
  have ht := take_put cur.toList (nums .u8 xs) (nums .u8 ys) (by rw [nums_len]; exact h3) (by rw [nums_len, nums_len]; omega)
  rw [nums_len, nums_len] at ht
  refine ⟨⟨_, setRow_heap _ _ _ _ _ _ hc, ?_, ?_⟩, ?_, h5⟩
  · simp [nums]; omega
  · rw [List.length_append, nums_append]
    exact ht
  · exact h4.grown (grown_setRow (World.grownBy.refl w (some g)) g _ (.inl rfl)) h4.size (fun i hi => by injection hi with hi; omega)
theorem put_one (cur : Array Value) (j : Nat) (v : Value) (h : j < cur.size) : cur.setIfInBounds j v = (cur.toList.take j ++ [v] ++ cur.toList.drop (j + 1)).toArray := by
  apply Array.toList_inj.1
  rw [Array.toList_setIfInBounds, List.set_eq_take_append_cons_drop, if_pos (by rw [Array.length_toList]; exact h)]
  simp
theorem BufSt.one {w0 w : World} {g cap : Nat} {xs : List Int} (y : Int) (h : BufSt w0 w g cap xs) (hl : xs.length + 1 ≤ cap) : BufSt w0 (w.setCell ⟨g, xs.length, none⟩ (.int .u8 y)) g cap (xs ++ [y]) := by
  obtain ⟨⟨cur, h1, h2, h3⟩, h4, h5⟩ := h
  have := BufSt.put [y] (⟨⟨cur, h1, h2, h3⟩, h4, h5⟩ : BufSt w0 w g cap xs) hl h1
  rw [setCell_eq_setRow w g _ cur _ _ _ h1, put_one _ _ _ (by omega)]
  exact this
theorem BufSt.own {w0 w : World} {g cap : Nat} {xs : List Int} (h : BufSt w0 w g cap xs) (hl : xs.length ≤ cap) (hm : cap ≤ maxLen) : w.ownsRow w0.heap.size 5 1 (.slice (some ⟨g, 0, none⟩) xs.length cap) xs.length (nums .u8 xs) := by
  obtain ⟨⟨cur, h1, h2, h3⟩, h4, h5⟩ := h
  exact ⟨by rw [nums_len]; omega, .inr ⟨g, cap, cur, rfl, h5, h1, hl, hm, by omega, by rw [Nat.mul_one]; exact h3⟩⟩
theorem addr_add0 (a : Addr) : a.add 0 = a := by cases a; simp [Addr.add]
theorem cell_heap {w W : World} (h : W.heap = w.heap) (a : Addr) : W.cell? a = w.cell? a := by simp [World.cell?, h]
theorem bsr_copy {w : World} {g cap j N : Nat} {cur : Array Value} {ad : Addr} {k : Nat} {x : Int} (hc : w.heap[g]? = some (.cells cur 5 (0, 0))) (hz : cur.size = cap) (hj : j + 2 ≤ N) (hN : N ≤ cap) (h0 : w.cell? ad = some (.int .u8 92)) (h1 : w.cell? (ad.add 1) = some (.int .u8 x)) (ty : TypeId) (dc : Nat) :
    (Builtin.copy_ #[58, 58] ty #[.slice (some ⟨g, j, none⟩) (N - j) dc, .slice (some ad) 2 k]).run Tryz.prog w = .ok (.int .i64 2) (w.setRow g (cur.toList.take j ++ nums .u8 [92, x] ++ cur.toList.drop (j + 2)).toArray) := by
  have h := copyK_run (P := Tryz.prog) w 58 58 ty 5 1 g j (N - j) dc ad 2 k cur 5 (nums .u8 [92, x]) (by kernel_rfl) (by kernel_rfl) hc (by simp only [nums, List.map_cons, List.map_nil, List.length_cons, List.length_nil, Nat.min_def]; split <;> omega)
    (fun i v hi => by
      match i, hi with
      | 0, hi => simp [nums] at hi; subst hi; rw [addr_add0]; exact h0
      | 1, hi => simp [nums] at hi; subst hi; exact h1
      | i + 2, hi => simp [nums] at hi) (by simp [nums]; omega) (by intro v hv; simp only [nums, List.map_cons, List.map_nil, List.mem_cons, List.not_mem_nil, or_false] at hv; rcases hv with rfl | rfl <;> rfl)
  rw [h, show Nat.min 2 (N - j) = 2 from by simp only [Nat.min_def]; split <;> omega]
  rfl
set_option maxHeartbeats 2000000 in
set_option maxRecDepth 100000 in
theorem bsrReplace_calls (s : ByteArray) (bb : Nat) (w : World) (hs : s.size ≤ 35184372088832) (hR : BSR w bb) :
    Calls Tryz.prog 163 #[.pointer (some ⟨bb, 0, none⟩), .string s] w fun e w' => e = .returned (.string (escS s)) ∧ Below w.heap.size w w' := by
  have HR := Aside0.mk hR
  have HB := Aside0.mk (Below.refl w.heap.size w)
  obtain ⟨ad3, k3, s0, s1⟩ := hR.seek
  have S1 := Aside0.mk s1
  have HCC := Aside0.mk (cntK_3 s)
  have qn : ∀ (w : World) (a : Option Addr) (n c n' c' : Nat), (binOp .neq 58 (.slice a n c) (.slice none n' c')).run Tryz.prog w = .ok (.bool (!a.isNone)) w := fun w a n c n' c' => run_neq_slice_nil_any w _ _ a n c n' c' (by kernel_rfl : Tryz.prog.underlying 58 = some (.slice 5))
  clear hR s1
  by_cases h24 : 24 ≤ s.size
  · have h24b : (24 : Int) ≤ (s.size : Int) := by omega
    go_enter Tryz.func163, Tryz.ntmps163
    go_wp2
    go_loopw [5, 6, 32] (fun N b i wr => ∃ (k n : Nat) (any : Bool), k ≤ 3 ∧ i = .int .i64 k ∧ N = .int .i64 n ∧ b = .bool any ∧ n = s.size + cntK s k ∧ Aside0 (any = decide (cntK s k ≠ 0)) ∧ Aside0 (Below w.heap.size w wr)) (fun _ _ i _ => 3 - (intOf i).toNat)
    case atStart => exact ⟨0, s.size, false, by omega, rfl, rfl, rfl, rfl, ⟨rfl⟩, HB⟩
    case round =>
      clear HB
      obtain ⟨k, n, any, hk, rfl, rfl, rfl, hnk, HA, HB⟩ := hrel
      have HNK := Aside0.mk hnk
      by_cases hlt : k < 3
      · have hltb : (k : Int) < 3 := by omega
        have z0 := pw_cell_below HB.out (S1.out k hlt)
        have hcl := cntB_le s (escK k)
        have hcn : cntK s (k + 1) = cntK s k + cntB s (escK k) := rfl
        have hck : cntK s k ≤ 3 * s.size := by
          have a0 := cntB_le s (escK 0)
          have a1 := cntB_le s (escK 1)
          rcases (by omega : k = 0 ∨ k = 1 ∨ k = 2) with rfl | rfl | rfl <;> simp [cntK] <;> omega
        have hnb : n ≤ 4 * s.size := by omega
        by_cases hc : cntB s (escK k) = 0
        · have hcb : ((cntB s (escK k) : Int) != 0) = false := by simp [hc]
          have HN := Aside0.mk (show any = decide (cntK s (k + 1) ≠ 0) by rw [HA.out, hcn, hc]; rfl)
          have HX := Aside0.mk (show n = s.size + cntK s (k + 1) by omega)
          clear hc hcn hnk
          go_wp2_with (go_at_call 165; refine (count1_calls s (escK k) _).mono ?_; rintro e w2 ⟨rfl, rfl⟩)
          go_roundw
          case rel => exact ⟨k + 1, n, any, by omega, by go_num, rfl, rfl, HX.out, HN, HB⟩
          case measure => simp [intOf]; omega
        · have hcb : ((cntB s (escK k) : Int) != 0) = true := by simp [hc]
          have HN := Aside0.mk (show true = decide (cntK s (k + 1) ≠ 0) by simp; omega)
          have HX := Aside0.mk (show n + cntB s (escK k) = s.size + cntK s (k + 1) by omega)
          clear hc hcn hnk
          go_wp2_with (go_at_call 165; refine (count1_calls s (escK k) _).mono ?_; rintro e w2 ⟨rfl, rfl⟩)
          rcases (by omega : k = 0 ∨ k = 1 ∨ k = 2) with rfl | rfl | rfl
          · rw [show escK 0 = 10 from rfl] at *
            obtain ⟨ad, kk, q1, q2, q3⟩ := (HR.out.below HB.out).yes 10 rfl
            clear q2 q3
            have hw1 : IntKind.i64.wrap ((n : Int) + (cntB s 10 : Int)) = (n : Int) + (cntB s 10 : Int) := by rw [IntKind.wrap_i64]; omega
            have e0 : ((⟨#[10]⟩ : ByteArray)[0]'(by show 0 < 1; omega)).toNat = 10 := rfl
            have hw2 : IntKind.i64.wrap ((cntB s 10 : Int)) = (cntB s 10 : Int) := by rw [IntKind.wrap_i64]; omega
            go_quiet (fail)
            have HB2 := Aside0.mk (below_then HB.out HB.out.size (pw_below_drewN (Below.refl _ _) nq))
            clear hw1 hw2
            go_wp2_with fail
            go_roundw
            case rel => exact ⟨1, n + cntB s 10, true, by omega, by go_num, by go_num, rfl, HX.out, HN, HB2⟩
            case measure => simp [intOf]
          · rw [show escK 1 = 34 from rfl] at *
            obtain ⟨ad, kk, q1, q2, q3⟩ := (HR.out.below HB.out).yes 34 rfl
            clear q2 q3
            have hw1 : IntKind.i64.wrap ((n : Int) + (cntB s 34 : Int)) = (n : Int) + (cntB s 34 : Int) := by rw [IntKind.wrap_i64]; omega
            have e0 : ((⟨#[34]⟩ : ByteArray)[0]'(by show 0 < 1; omega)).toNat = 34 := rfl
            have hw2 : IntKind.i64.wrap ((cntB s 34 : Int)) = (cntB s 34 : Int) := by rw [IntKind.wrap_i64]; omega
            go_quiet (fail)
            have HB2 := Aside0.mk (below_then HB.out HB.out.size (pw_below_drewN (Below.refl _ _) nq))
            clear hw1 hw2
            go_wp2_with fail
            go_roundw
            case rel => exact ⟨2, n + cntB s 34, true, by omega, by go_num, by go_num, rfl, HX.out, HN, HB2⟩
            case measure => simp [intOf]
          · rw [show escK 2 = 92 from rfl] at *
            obtain ⟨ad, kk, q1, q2, q3⟩ := (HR.out.below HB.out).yes 92 rfl
            clear q2 q3
            have hw1 : IntKind.i64.wrap ((n : Int) + (cntB s 92 : Int)) = (n : Int) + (cntB s 92 : Int) := by rw [IntKind.wrap_i64]; omega
            have e0 : ((⟨#[92]⟩ : ByteArray)[0]'(by show 0 < 1; omega)).toNat = 92 := rfl
            have hw2 : IntKind.i64.wrap ((cntB s 92 : Int)) = (cntB s 92 : Int) := by rw [IntKind.wrap_i64]; omega
            go_quiet (fail)
            have HB2 := Aside0.mk (below_then HB.out HB.out.size (pw_below_drewN (Below.refl _ _) nq))
            clear hw1 hw2
            go_wp2_with fail
            go_roundw
            case rel => exact ⟨3, n + cntB s 92, true, by omega, by go_num, by go_num, rfl, HX.out, HN, HB2⟩
            case measure => simp [intOf]
      · obtain rfl : k = 3 := by omega
        have hltb : ¬ (3 : Int) < 3 := by omega
        have hn : n = (escP s s.size).length ∧ any = decide ((escP s s.size).length ≠ s.size) := ⟨by rw [HCC.out]; omega, by rw [HA.out, HCC.out]; simp⟩
        clear hnk HA HNK
        have HAN := Aside0.mk hn
        clear hn
        by_cases hany : any = true
        · subst hany
          clear HCC
          have hn0 : (n : Int) = ((escP s s.size).length : Int) := by rw [HAN.out.1]
          have hb2 := (escP_len s s.size).2
          have hT : Tryz.prog.underlying 58 = some (.slice 5) := by kernel_rfl
          have hinfo : (Tryz.prog.info? 5).map (fun i => (i.zero, i.size, i.bytes)) = some (some (.int .u8 0), 1, 1) := by kernel_rfl
          have hn1 : n ≤ 70368744177664 := by omega
          have HN0 := Aside0.mk hn0
          clear hn0 hb2
          go_wp2_with (at_make; refine Kd.R_make (Kd.int .u8) (w0 := w) w.heap.size 5 rfl rfl 58 _ _ rfl (n : Int) rfl rfl hT (.int .u8 0) 1 hinfo (by rfl) (by decide) (by omega) (0 : Int) (ok := fun _ => True) (okp := fun _ => False) rfl (fun _ h => h.elim) trivial (by omega) (by simp; omega) HB.out HB.out.size ?_; intro v1 w1 hR hB1 hG1 hat1)
          obtain ⟨g, cap, cur, hv, hgb, hgc, hnc, hcm, hcs, htk⟩ : ∃ g cap cur, v1 = .slice (some ⟨g, 0, none⟩) n cap ∧ w.heap.size ≤ g ∧ w1.heap[g]? = some (.cells cur 5 (0, 0)) ∧ n ≤ cap ∧ cap ≤ maxLen ∧ cur.size = cap ∧ True := by
            have ho := Kd.own_of_R hR
            rcases ho.2 with ⟨hv, h0⟩ | ⟨g, cap, cur, hv, hb, hh, hnc, hcm, hcs, ht⟩
            · obtain ⟨b, hb, _⟩ := hat1
              rw [hv] at hb
              cases hb
            · rw [List.length_replicate] at hv hnc
              simp only [Int.toNat_natCast] at hv hnc
              exact ⟨g, cap, cur, hv, hb, hh, hnc, hcm, by omega, trivial⟩
          have HBF := Aside0.mk (show BufSt w w1 g cap [] from ⟨⟨cur, hgc, hcs, by simp [nums]⟩, hB1, hgb⟩)
          have HR1 := Aside0.mk (HR.out.below hB1)
          subst hv
          clear hR hG1 hat1 hgc htk hcs hT hinfo HB
          have hcapI : (cap : Int) ≤ 9223372036854775807 := by unfold maxLen at hcm; omega
          have hncI : (n : Int) ≤ (cap : Int) := by omega
          have hNN : n = (escP s s.size).length := HAN.out.1
          have HNN := Aside0.mk hNN
          clear hNN
          go_wp2_with fail
          go_loopw [13, 14] (fun p i wr => ∃ k : Nat, k ≤ s.size ∧ i = .int .i64 k ∧ p = .int .i64 (escP s k).length ∧ Aside0 (BufSt w wr g cap (escP s k))) (fun _ i _ => s.size - (intOf i).toNat)
          case atStart => exact ⟨0, by omega, rfl, rfl, HBF⟩
          case round =>
            clear HBF hB1
            obtain ⟨k, hk, rfl, rfl, HBF⟩ := hrel
            have hpl := escP_len s k
            by_cases hlt : k < s.size
            · have hltb : (k : Int) < (s.size : Int) := by omega
              have hbt : ((s[k]'hlt).toNat : Int) = bt s k := bt_at s k (by simpa using hlt)
              have hbr := bt_range s k
              have hbn : (s[k]'hlt).toNat = (bt s k).toNat := by omega
              have hbc : (((bt s k).toNat : Nat) : Int) = bt s k := by omega
              have hmono := escP_le (s := s) (n := k + 1) (m := s.size) (by omega)
              have hsz := escC_len (bt s k)
              have hnl : n = (escP s s.size).length := HNN.out
              have hl1 : (escP s (k + 1)).length = (escP s k).length + (escC (bt s k)).length := by rw [escP, List.length_append]
              have HR2 := HR.out.below HBF.out.below
              have HBT := Aside0.mk hbt
              obtain ⟨j, hj⟩ : ∃ j, j = (escP s k).length := ⟨_, rfl⟩
              rw [← hj] at hpl hl1 ⊢
              have HJ := Aside0.mk hj
              clear hj
              by_cases hesc : isEsc (bt s k) = true
              · rw [hesc, if_pos rfl] at hsz
                obtain ⟨ad, kk, q1, q2, q3⟩ := HR2.yes (bt s k).toNat (by rw [hbc]; exact hesc)
                rw [hbc] at q3
                have HE := Aside0.mk (show escP s (k + 1) = escP s k ++ [92, escX (bt s k)] by rw [escP, escC_yes hesc])
                have hj2 : j + 2 ≤ n := by omega
                obtain ⟨cur2, hc2, hz2⟩ : ∃ cur, wr.heap[g]? = some (.cells cur 5 (0, 0)) ∧ cur.size = cap := by
                  obtain ⟨cur, h1, h2, _⟩ := HBF.out.cells
                  exact ⟨cur, h1, h2⟩
                have HCP := Aside0.mk (fun (W : World) (hW : W.heap = wr.heap) ty dc => bsr_copy (w := W) (ad := ad) (k := kk) (x := escX (bt s k)) (by rw [hW]; exact hc2) hz2 hj2 hnc ((cell_heap hW _).trans q2) ((cell_heap hW _).trans q3) ty dc)
                have HPUT := Aside0.mk (fun (W : World) (hb : Below wr.heap.size wr W) (hW : W.heap = wr.heap) => BufSt.put [92, escX (bt s k)] (HBF.out.to hb) (by rw [← HJ.out]; show j + 2 ≤ cap; omega) (cur := cur2) (by rw [hW]; exact hc2))
                have hncap : ¬ (cap = j) := by omega
                have hw1 : IntKind.i64.wrap ((j : Int) + 2) = (j : Int) + 2 := by rw [IntKind.wrap_i64]; omega
                have hjn : (j : Int) ≤ (n : Int) := by omega
                clear q2 q3 hc2 hesc hsz hmono hpl hl1 HR2 hbt hnl
                go_wp2_with fail
                have HC2 := Aside0.mk (HCP.out wr.drew rfl 3 (cap - j))
                have HP2 := Aside0.mk (HPUT.out wr.drew (below_drew (Below.refl _ _)) rfl)
                rw [← HJ.out] at HP2
                clear HCP HPUT
                generalize wr.drew.setRow g (cur2.toList.take j ++ nums .u8 [92, escX (bt s k)] ++ cur2.toList.drop (j + 2)).toArray = w7 at *
                have hb256 : bt s k < 256 := by omega
                have mixed : Tryz.prog.follows .mixedOrders = true := by kernel_rfl
                go_region_law_o (refine Go.Proofs.step_copy_runI rfl _ _ 58 58 rfl (.slice (some ⟨g, j, none⟩) (n - j) (cap - j)) (.slice (some ad) 2 kk) (by simp [Act.eval, Act.put]) (by simp [Act.eval, Act.put]) HC2.out ?_)
                clear hb256 mixed
                go_wp2_with fail
                go_roundw
                case rel => exact ⟨k + 1, by omega, by go_num, by rw [HE.out, List.length_append, ← HJ.out]; go_num, ⟨by rw [HE.out]; first | exact HP2.out | exact HP2.out.to (below_drew (Below.refl _ _))⟩⟩
                case measure => simp [intOf]; omega
              · have hesc : isEsc (bt s k) = false := by simpa using hesc
                rw [hesc, if_neg (by decide)] at hsz
                have q1 := HR2.no (bt s k).toNat (by omega) (by rw [hbc]; exact hesc)
                have HE := Aside0.mk (show escP s (k + 1) = escP s k ++ [bt s k] by rw [escP, escC_no hesc])
                have hj2 : j + 1 ≤ n := by omega
                obtain ⟨v0, hv0⟩ := HBF.out.cell j (by omega)
                have hf0 := HBF.out.frozen j
                have HP2 := Aside0.mk (HBF.out.one (bt s k) (by rw [← HJ.out]; omega))
                rw [← HJ.out] at HP2
                have hjn : (j : Int) < (n : Int) := by omega
                clear hesc hsz hmono hpl hl1 HR2 hnl
                go_wp2_with fail
                generalize wr.setCell ⟨g, j, none⟩ (.int .u8 (bt s k)) = w7 at *
                go_roundw
                case rel => exact ⟨k + 1, by omega, by go_num, by rw [HE.out, List.length_append, ← HJ.out]; go_num, ⟨by rw [HE.out]; exact HP2.out⟩⟩
                case measure => simp [intOf]; omega
            · obtain rfl : k = s.size := by omega
              have hltb : ¬ (s.size : Int) < (s.size : Int) := by omega
              have ho := HBF.out.own (by rw [← HNN.out]; exact hnc) hcm
              rw [← HNN.out] at ho
              have kc := own_string (P := Tryz.prog) Tryz.underlying58 Tryz.underlying5 Tryz.underlying9 ho
              clear ho hpl
              go_wp2_with fail
              go_ret
              exact ⟨rfl, HBF.out.below⟩
        · obtain rfl : any = false := by simpa using hany
          have HS := Aside0.mk (show escS s = s from escS_same s (by have h := HAN.out.2; simpa using h.symm))
          go_wp2_with fail
          go_ret
          exact ⟨by rw [HS.out]; rfl, HB.out⟩
  · have h24b : ¬ (24 : Int) ≤ (s.size : Int) := by omega
    go_enter Tryz.func163, Tryz.ntmps163
    go_wp2
    go_loop [5, 6, 10] (fun N b i => ∃ (k n : Nat) (any : Bool), k ≤ s.size ∧ i = .int .i64 k ∧ N = .int .i64 n ∧ b = .bool any ∧ n + k = s.size + (escP s k).length ∧ Aside0 (any = decide ((escP s k).length ≠ k))) (fun _ _ i => s.size - (intOf i).toNat)
    case atStart => exact ⟨0, s.size, false, by omega, rfl, rfl, rfl, by simp [escP], ⟨by simp [escP]⟩⟩
    case round =>
      obtain ⟨k, n, any, hk, rfl, rfl, rfl, hnk, HA⟩ := hrel
      have hpl := escP_len s k
      by_cases hlt : k < s.size
      · have hltb : (k : Int) < (s.size : Int) := by omega
        have hbt : ((s[k]'hlt).toNat : Int) = bt s k := bt_at s k (by simpa using hlt)
        have hbr := bt_range s k
        have hbc : (((bt s k).toNat : Nat) : Int) = bt s k := by omega
        have hbn : (s[k]'hlt).toNat = (bt s k).toNat := by omega
        have hsz := escC_len (bt s k)
        have hl1 : (escP s (k + 1)).length = (escP s k).length + (escC (bt s k)).length := by rw [escP, List.length_append]
        by_cases hesc : isEsc (bt s k) = true
        · rw [hesc, if_pos rfl] at hsz
          obtain ⟨ad, kk, q1, q2, q3⟩ := HR.out.yes (bt s k).toNat (by rw [hbc]; exact hesc)
          have HN := Aside0.mk (show true = decide ((escP s (k + 1)).length ≠ k + 1) by simp; omega)
          have HX := Aside0.mk (show (n + 1) + (k + 1) = s.size + (escP s (k + 1)).length by omega)
          have hn1 : (n : Int) ≤ 9223372036854775000 := by omega
          clear hesc q2 q3 hsz hl1
          go_wp2
          go_round
          case rel => exact ⟨k + 1, n + 1, true, by omega, by go_num, by go_num, rfl, HX.out, HN⟩
          case measure => simp [intOf]; omega
        · have hesc : isEsc (bt s k) = false := by simpa using hesc
          rw [hesc, if_neg (by decide)] at hsz
          have q1 := HR.out.no (bt s k).toNat (by omega) (by rw [hbc]; exact hesc)
          have HN := Aside0.mk (show any = decide ((escP s (k + 1)).length ≠ k + 1) by rw [HA.out, hl1, hsz]; simp)
          have HX := Aside0.mk (show n + (k + 1) = s.size + (escP s (k + 1)).length by omega)
          clear hesc hsz hl1
          go_wp2
          go_round
          case rel => exact ⟨k + 1, n, any, by omega, by go_num, rfl, rfl, HX.out, HN⟩
          case measure => simp [intOf]; omega
      · obtain rfl : k = s.size := by omega
        have hltb : ¬ (s.size : Int) < (s.size : Int) := by omega
        have hn : n = (escP s s.size).length ∧ any = decide ((escP s s.size).length ≠ s.size) := ⟨by omega, HA.out⟩
        clear hnk hpl HA
        have HAN := Aside0.mk hn
        clear hn
        by_cases hany : any = true
        · subst hany
          clear HCC
          have hn0 : (n : Int) = ((escP s s.size).length : Int) := by rw [HAN.out.1]
          have hb2 := (escP_len s s.size).2
          have hT : Tryz.prog.underlying 58 = some (.slice 5) := by kernel_rfl
          have hinfo : (Tryz.prog.info? 5).map (fun i => (i.zero, i.size, i.bytes)) = some (some (.int .u8 0), 1, 1) := by kernel_rfl
          have hn1 : n ≤ 70368744177664 := by omega
          have HN0 := Aside0.mk hn0
          clear hn0 hb2
          go_wp2_with (at_make; refine Kd.R_make (Kd.int .u8) (w0 := w) w.heap.size 5 rfl rfl 58 _ _ rfl (n : Int) rfl rfl hT (.int .u8 0) 1 hinfo (by rfl) (by decide) (by omega) (0 : Int) (ok := fun _ => True) (okp := fun _ => False) rfl (fun _ h => h.elim) trivial (by omega) (by simp; omega) HB.out HB.out.size ?_; intro v1 w1 hR hB1 hG1 hat1)
          obtain ⟨g, cap, cur, hv, hgb, hgc, hnc, hcm, hcs, htk⟩ : ∃ g cap cur, v1 = .slice (some ⟨g, 0, none⟩) n cap ∧ w.heap.size ≤ g ∧ w1.heap[g]? = some (.cells cur 5 (0, 0)) ∧ n ≤ cap ∧ cap ≤ maxLen ∧ cur.size = cap ∧ True := by
            have ho := Kd.own_of_R hR
            rcases ho.2 with ⟨hv, h0⟩ | ⟨g, cap, cur, hv, hb, hh, hnc, hcm, hcs, ht⟩
            · obtain ⟨b, hb, _⟩ := hat1
              rw [hv] at hb
              cases hb
            · rw [List.length_replicate] at hv hnc
              simp only [Int.toNat_natCast] at hv hnc
              exact ⟨g, cap, cur, hv, hb, hh, hnc, hcm, by omega, trivial⟩
          have HBF := Aside0.mk (show BufSt w w1 g cap [] from ⟨⟨cur, hgc, hcs, by simp [nums]⟩, hB1, hgb⟩)
          have HR1 := Aside0.mk (HR.out.below hB1)
          subst hv
          clear hR hG1 hat1 hgc htk hcs hT hinfo HB
          have hcapI : (cap : Int) ≤ 9223372036854775807 := by unfold maxLen at hcm; omega
          have hncI : (n : Int) ≤ (cap : Int) := by omega
          have hNN : n = (escP s s.size).length := HAN.out.1
          have HNN := Aside0.mk hNN
          clear hNN
          go_wp2_with fail
          go_loopw [13, 14] (fun p i wr => ∃ k : Nat, k ≤ s.size ∧ i = .int .i64 k ∧ p = .int .i64 (escP s k).length ∧ Aside0 (BufSt w wr g cap (escP s k))) (fun _ i _ => s.size - (intOf i).toNat)
          case atStart => exact ⟨0, by omega, rfl, rfl, HBF⟩
          case round =>
            clear HBF hB1
            obtain ⟨k, hk, rfl, rfl, HBF⟩ := hrel
            have hpl := escP_len s k
            by_cases hlt : k < s.size
            · have hltb : (k : Int) < (s.size : Int) := by omega
              have hbt : ((s[k]'hlt).toNat : Int) = bt s k := bt_at s k (by simpa using hlt)
              have hbr := bt_range s k
              have hbn : (s[k]'hlt).toNat = (bt s k).toNat := by omega
              have hbc : (((bt s k).toNat : Nat) : Int) = bt s k := by omega
              have hmono := escP_le (s := s) (n := k + 1) (m := s.size) (by omega)
              have hsz := escC_len (bt s k)
              have hnl : n = (escP s s.size).length := HNN.out
              have hl1 : (escP s (k + 1)).length = (escP s k).length + (escC (bt s k)).length := by rw [escP, List.length_append]
              have HR2 := HR.out.below HBF.out.below
              have HBT := Aside0.mk hbt
              obtain ⟨j, hj⟩ : ∃ j, j = (escP s k).length := ⟨_, rfl⟩
              rw [← hj] at hpl hl1 ⊢
              have HJ := Aside0.mk hj
              clear hj
              by_cases hesc : isEsc (bt s k) = true
              · rw [hesc, if_pos rfl] at hsz
                obtain ⟨ad, kk, q1, q2, q3⟩ := HR2.yes (bt s k).toNat (by rw [hbc]; exact hesc)
                rw [hbc] at q3
                have HE := Aside0.mk (show escP s (k + 1) = escP s k ++ [92, escX (bt s k)] by rw [escP, escC_yes hesc])
                have hj2 : j + 2 ≤ n := by omega
                obtain ⟨cur2, hc2, hz2⟩ : ∃ cur, wr.heap[g]? = some (.cells cur 5 (0, 0)) ∧ cur.size = cap := by
                  obtain ⟨cur, h1, h2, _⟩ := HBF.out.cells
                  exact ⟨cur, h1, h2⟩
                have HCP := Aside0.mk (fun (W : World) (hW : W.heap = wr.heap) ty dc => bsr_copy (w := W) (ad := ad) (k := kk) (x := escX (bt s k)) (by rw [hW]; exact hc2) hz2 hj2 hnc ((cell_heap hW _).trans q2) ((cell_heap hW _).trans q3) ty dc)
                have HPUT := Aside0.mk (fun (W : World) (hb : Below wr.heap.size wr W) (hW : W.heap = wr.heap) => BufSt.put [92, escX (bt s k)] (HBF.out.to hb) (by rw [← HJ.out]; show j + 2 ≤ cap; omega) (cur := cur2) (by rw [hW]; exact hc2))
                have hncap : ¬ (cap = j) := by omega
                have hw1 : IntKind.i64.wrap ((j : Int) + 2) = (j : Int) + 2 := by rw [IntKind.wrap_i64]; omega
                have hjn : (j : Int) ≤ (n : Int) := by omega
                clear q2 q3 hc2 hesc hsz hmono hpl hl1 HR2 hbt hnl
                go_wp2_with fail
                have HC2 := Aside0.mk (HCP.out wr.drew rfl 3 (cap - j))
                have HP2 := Aside0.mk (HPUT.out wr.drew (below_drew (Below.refl _ _)) rfl)
                rw [← HJ.out] at HP2
                clear HCP HPUT
                generalize wr.drew.setRow g (cur2.toList.take j ++ nums .u8 [92, escX (bt s k)] ++ cur2.toList.drop (j + 2)).toArray = w7 at *
                have hb256 : bt s k < 256 := by omega
                have mixed : Tryz.prog.follows .mixedOrders = true := by kernel_rfl
                go_region_law_o (refine Go.Proofs.step_copy_runI rfl _ _ 58 58 rfl (.slice (some ⟨g, j, none⟩) (n - j) (cap - j)) (.slice (some ad) 2 kk) (by simp [Act.eval, Act.put]) (by simp [Act.eval, Act.put]) HC2.out ?_)
                clear hb256 mixed
                go_wp2_with fail
                go_roundw
                case rel => exact ⟨k + 1, by omega, by go_num, by rw [HE.out, List.length_append, ← HJ.out]; go_num, ⟨by rw [HE.out]; first | exact HP2.out | exact HP2.out.to (below_drew (Below.refl _ _))⟩⟩
                case measure => simp [intOf]; omega
              · have hesc : isEsc (bt s k) = false := by simpa using hesc
                rw [hesc, if_neg (by decide)] at hsz
                have q1 := HR2.no (bt s k).toNat (by omega) (by rw [hbc]; exact hesc)
                have HE := Aside0.mk (show escP s (k + 1) = escP s k ++ [bt s k] by rw [escP, escC_no hesc])
                have hj2 : j + 1 ≤ n := by omega
                obtain ⟨v0, hv0⟩ := HBF.out.cell j (by omega)
                have hf0 := HBF.out.frozen j
                have HP2 := Aside0.mk (HBF.out.one (bt s k) (by rw [← HJ.out]; omega))
                rw [← HJ.out] at HP2
                have hjn : (j : Int) < (n : Int) := by omega
                clear hesc hsz hmono hpl hl1 HR2 hnl
                go_wp2_with fail
                generalize wr.setCell ⟨g, j, none⟩ (.int .u8 (bt s k)) = w7 at *
                go_roundw
                case rel => exact ⟨k + 1, by omega, by go_num, by rw [HE.out, List.length_append, ← HJ.out]; go_num, ⟨by rw [HE.out]; exact HP2.out⟩⟩
                case measure => simp [intOf]; omega
            · obtain rfl : k = s.size := by omega
              have hltb : ¬ (s.size : Int) < (s.size : Int) := by omega
              have ho := HBF.out.own (by rw [← HNN.out]; exact hnc) hcm
              rw [← HNN.out] at ho
              have kc := own_string (P := Tryz.prog) Tryz.underlying58 Tryz.underlying5 Tryz.underlying9 ho
              clear ho hpl
              go_wp2_with fail
              go_ret
              exact ⟨rfl, HBF.out.below⟩
        · obtain rfl : any = false := by simpa using hany
          have HS := Aside0.mk (show escS s = s from escS_same s (by have h := HAN.out.2; simpa using h.symm))
          go_wp2_with fail
          go_ret
          exact ⟨by rw [HS.out]; rfl, HB.out⟩
end Go.Proofs.YtgmdgaioiifgnaaGreat
