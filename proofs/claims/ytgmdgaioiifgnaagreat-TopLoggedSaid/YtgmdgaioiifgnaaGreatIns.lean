/- slices.Insert(s, i, x): printed by ins.py. -/
import Derived.Test.YtgmdgaioiifgnaaGreatIns0
import Derived.Test.YtgmdgaioiifgnaaGreatProg
import Derived.Lib.Overlaps
set_option linter.unusedVariables false
set_option linter.unusedSimpArgs false
namespace Go.Proofs.YtgmdgaioiifgnaaGreat
open Go.RowKit Go.Proofs.YtgmdgaioiifgnaaGreatW.PrintWords

set_option maxHeartbeats 1000000 in
set_option maxRecDepth 100000 in
theorem insert_int_shift (w : World) (g n cap i vb : Nat) (cur : Array Value) (xs ys : List Value) (hi : i < n) (hcap : n + 1 ≤ cap) (hc63 : cap ≤ 9223372036854775807) (hg : w.heap[g]? = some (.cells cur 3 (0, 0))) (hcs : cur.size = cap * 1)
    (hxl : xs.length = n * 1) (hL : cur.toList.take xs.length = xs) (hyl : ys.length = 1) (hvb : w.heap[vb]? = some (.cells ys.toArray 3 (0, 0))) (hne : vb ≠ g) (h1x : ∀ v ∈ xs, v.oneCell' = true) (h1y : ∀ v ∈ ys, v.oneCell' = true) :
    Calls Tryz.prog 46 #[.slice (some ⟨g, 0, none⟩) n cap, .int .i64 i, .slice (some ⟨vb, 0, none⟩) 1 1] w fun e w' => e = .returned (.slice (some ⟨g, 0, none⟩) (n + 1) cap) ∧
      w' = (w.drew.setRow g (insRow1 cur.toList xs (i) 1).toArray).setRow g (insRow2 cur.toList xs ys (i) 1).toArray := by
  have hz2 : ¬ ((i : Int) = (n : Int)) := by omega
  have hz3 : ¬ ((cap : Int) < (n : Int) + 1) := by omega
  have hT : Tryz.prog.underlying 25 = some (.slice 3) := by kernel_rfl
  have hsz : (Tryz.prog.info? 3).map (·.size) = some 1 := by kernel_rfl
  have hcap0 : cur.size ≠ 0 := by omega
  have hov : ∀ lb cb, (callFunc 77 #[.slice (some ⟨vb, 0, none⟩) 1 1, .slice (some ⟨g, i + 1, none⟩) lb cb]).run Tryz.prog w = .ok (.value (.bool false)) w := fun lb cb => by
    rw [run_callFunc_extern Tryz.func77 (by kernel_rfl) (by kernel_rfl) (by kernel_rfl) (e := Extern.SlicesOverlaps.overlaps #[25, 25] #[4]) (by kernel_rfl),
      Lib.run_overlaps_apart w 25 4 3 hT 1 (fun w => by kernel_rfl) ⟨vb, 0, none⟩ ⟨g, i + 1, none⟩ 1 1 lb cb hne 3 3 ys.length cur.size (by simp [World.shape?, hvb]) (by simp [World.shape?, hg]) hcap0 (by simp [World.frozen?, hvb]) (by simp [World.frozen?, hvb])]
    rfl
  have hr1 : ((w.drew.setRow g (insRow1 cur.toList xs (i) 1).toArray)).heap[g]? = some (.cells (insRow1 cur.toList xs (i) 1).toArray 3 (0, 0)) := setRow_heap _ _ _ _ _ _ hg
  have hcl : cur.toList.length = cur.size := Array.length_toList
  have hlen1 : (insRow1 cur.toList xs (i) 1).length = cur.toList.length := insRow1_length (by omega) (by omega)
  have hdl : (xs.drop (i)).length = (n - i) * 1 := by rw [List.length_drop, hxl]; omega
  have hcp1 : ∀ ty dc sc, (Builtin.copy_ #[25, 25] ty #[.slice (some ⟨g, i + 1, none⟩) (n - i) dc, .slice (some ⟨g, i, none⟩) (n + 1 - i) sc]).run Tryz.prog w.drew = .ok (goInt (Nat.min (n + 1 - i) (n - i))) (w.drew.setRow g (insRow1 cur.toList xs (i) 1).toArray) := fun ty dc sc => by
    have h := copyK_run (P := Tryz.prog) w.drew 25 25 ty 3 1 g (i + 1) (n - i) dc ⟨g, i, none⟩ (n + 1 - i) sc cur 3 (xs.drop (i)) hT hsz hg (by rw [hdl]; simp only [Nat.min_def]; split <;> omega)
      (fun j v hj => by rw [Addr.add_lit, row_cell (w := w.drew) hg]; exact getq_drop hL hj) (by rw [hdl]; omega) (fun v hv => h1x v (List.mem_of_mem_drop hv))
    have hR : cur.toList.take (i + 1) ++ xs.drop (i) ++ cur.toList.drop (i + 1 + (xs.drop (i)).length) = insRow1 cur.toList xs (i) 1 := by
      rw [insRow1, hdl, hxl, show i + 1 = i + 1 by omega, show n * 1 - i = (n - i) * 1 by omega]
    rw [hR] at h
    exact h
  have hcp2 : ∀ ty dc, (Builtin.copy_ #[25, 25] ty #[.slice (some ⟨g, i, none⟩) (n + 1 - i) dc, .slice (some ⟨vb, 0, none⟩) 1 1]).run Tryz.prog (w.drew.setRow g (insRow1 cur.toList xs (i) 1).toArray) = .ok (goInt (Nat.min 1 (n + 1 - i))) ((w.drew.setRow g (insRow1 cur.toList xs (i) 1).toArray).setRow g (insRow2 cur.toList xs ys (i) 1).toArray) := fun ty dc => by
    have h := copyK_run (P := Tryz.prog) (w.drew.setRow g (insRow1 cur.toList xs (i) 1).toArray) 25 25 ty 3 1 g (i) (n + 1 - i) dc ⟨vb, 0, none⟩ 1 1 _ 3 ys hT hsz hr1 (by rw [hyl]; simp only [Nat.min_def]; split <;> omega)
      (fun j v hj => by rw [Addr.add_lit, cell_setRow_other _ _ _ _ (by exact hne), row_cell (w := w.drew) hvb]; simpa using hj) (by rw [List.size_toArray, hlen1]; omega) h1y
    have hR2 : (insRow1 cur.toList xs (i) 1).toArray.toList.take (i) ++ ys ++ (insRow1 cur.toList xs (i) 1).toArray.toList.drop (i + ys.length) = insRow2 cur.toList xs ys (i) 1 := by
      simp only [insRow2, hyl, Nat.mul_one]
    rw [hR2] at h
    exact h
  have HC1 := Aside0.mk hcp1
  have HC2 := Aside0.mk hcp2
  have hw1 : IntKind.i64.wrap ((i : Int) + 1) = (i : Int) + 1 := by rw [IntKind.wrap_i64]; omega
  have hw2 : IntKind.i64.wrap ((n : Int) + 1) = (n : Int) + 1 := by rw [IntKind.wrap_i64]; omega
  have htn : ((i : Int) + 1).toNat = i + 1 := by omega
  have htm : ((n : Int) + 1).toNat = n + 1 := by omega
  have hin : i ≤ n := by omega
  have hb2 : ¬ (cap = i + 1) := by omega
  have hb4 : ¬ (cap = i) := by omega
  have hb3 : (i : Int) ≤ (n : Int) + 1 := by omega
  have hb5 : (n : Int) + 1 ≤ (cap : Int) := by omega
  have hb6 : (0 : Int) ≤ (i : Int) + 1 := by omega
  clear hcp1 hcp2 hr1 hlen1 hdl hg hvb hL hxl hcs hyl h1x h1y hcap0 hsz hT
  have mixed : Tryz.prog.follows .mixedOrders = true := by kernel_rfl
  go_enter Tryz.func46, Tryz.ntmps46
  go_wp2_with (simp only [hov])
  go_region_law_o (refine Go.Proofs.step_copy_runI rfl _ _ 25 25 rfl (.slice (some ⟨g, i + 1, none⟩) (n - i) (cap - (i + 1))) (.slice (some ⟨g, i, none⟩) (n + 1 - i) (cap - i)) (by simp [Act.eval, Act.put]) (by simp [Act.eval, Act.put]) (HC1.out 3 (cap - (i + 1)) (cap - i)) ?_)
  go_wp2_with (simp only [HC2.out])
  go_ret
  exact ⟨rfl, rfl⟩
set_option maxHeartbeats 1000000 in
set_option maxRecDepth 100000 in
theorem insert_int_grow (base : Nat) (w : World) (g n i vb : Nat) (cur : Array Value) (xs ys : List Value) (hi : i < n) (hbase : base ≤ w.heap.size) (hbig : (n + 1) * 8 ≤ 140737488355328) (hg : w.heap[g]? = some (.cells cur 3 (0, 0)))
    (hxl : xs.length = n * 1) (hL : cur.toList.take xs.length = xs) (hyl : ys.length = 1) (hvb : w.heap[vb]? = some (.cells ys.toArray 3 (0, 0))) (h1x : ∀ v ∈ xs, v.oneCell' = true) (h1y : ∀ v ∈ ys, v.oneCell' = true) :
    Calls Tryz.prog 46 #[.slice (some ⟨g, 0, none⟩) n n, .int .i64 i, .slice (some ⟨vb, 0, none⟩) 1 1] w (InsPost base 3 1 w (.slice (some ⟨g, 0, none⟩) n n) (n + 1) (xs.take (i * 1) ++ ys ++ xs.drop (i * 1))) := by
  have hz2 : ¬ ((i : Int) = (n : Int)) := by omega
  have hz3 : (n : Int) < (n : Int) + 1 := by omega
  have hT : Tryz.prog.underlying 25 = some (.slice 3) := by kernel_rfl
  have hTi : Tryz.prog.underlying 3 = some (.int .i64) := by kernel_rfl
  have hsz : (Tryz.prog.info? 3).map (·.size) = some 1 := by kernel_rfl
  have hinfo : (Tryz.prog.info? 3).map (fun i => (i.zero, i.size, i.bytes)) = some (some (.int .i64 0), 1, 8) := by kernel_rfl
  obtain ⟨i0, hi0, hzz⟩ := Option.map_eq_some_iff.1 hinfo
  simp only [Prod.mk.injEq] at hzz
  obtain ⟨hz0, hzs, hzb⟩ := hzz
  have hgw : g < w.heap.size := (Array.getElem?_eq_some_iff.1 hg).1
  have hvw : vb < w.heap.size := (Array.getElem?_eq_some_iff.1 hvb).1
  have hcl : cur.toList.length = cur.size := Array.length_toList
  have hcn : n * 1 ≤ cur.size := by have := congrArg List.length hL; rw [List.length_take] at this; omega
  have htl : (xs.take (i)).length = i * 1 := by rw [List.length_take]; omega
  have hold : (Builtin.firstCells i0.size i (.slice (some ⟨g, 0, none⟩) i n)).run Tryz.prog w.drew = .ok (xs.take (i)).toArray w.drew := by
    rw [hzs]
    exact run_firstCells_some w.drew 1 i ⟨g, 0, none⟩ i n (xs.take (i)) htl (fun j v hj => by
      rw [Addr.add_lit, row_cell (w := w.drew) hg, Nat.zero_add]
      rw [List.getElem?_take] at hj
      split at hj
      · exact (getq_drop (k := 0) hL (by rw [List.drop_zero]; exact hj)).symm ▸ (by rw [Nat.zero_add])
      · cases hj)
  obtain ⟨G, hG⟩ : ∃ G, G = Go.grownCap w (n + 1) n 3 := ⟨_, rfl⟩
  obtain ⟨ROW, hROW⟩ : ∃ ROW : List Value, ROW = ((xs.take (i)).toArray ++ Builtin.zeroCells ((.int .i64 0) : Value).cells (n + 1 - i) ++ Builtin.zeroCells ((.int .i64 0) : Value).cells (G - (n + 1))).toList := ⟨_, rfl⟩
  have hrz : ∀ ty, (Builtin.append_ #[25, 3] ty #[.slice (some ⟨g, 0, none⟩) i n, .int .i64 ((n : Int) + 1 - (i : Int))]).run Tryz.prog w = .ok (.slice (some ⟨w.heap.size, 0, none⟩) (n + 1) G) (w.drew.alloc (.cells ROW.toArray 3)) := fun ty => by
    have hik : i + (n + 1 - i) = n + 1 := by omega
    have h := Lib.run_append_grow_zeros w 25 3 ty 3 i0 _ .i64 .i64 hT hTi hi0 hz0 (some ⟨g, 0, none⟩) i n (xs.take (i)) hold (n + 1 - i) (by omega) (by omega) (by omega) (by omega) (by rw [hzb]; omega) (by rw [hzb, hik]; exact growslice_fits (by omega) hbig)
    rw [hik] at h
    rw [show (n : Int) + 1 - (i : Int) = ((n + 1 - i : Nat) : Int) by omega, hROW, hG]
    exact h
  have hGn : n + 1 ≤ G := by rw [hG]; exact Go.grownCap_ge w _ _ _
  have hG63 : G ≤ 9223372036854775807 := by
    have := Go.grownCap_le_maxLen w (n + 1) n 3 (by unfold maxLen; omega)
    rw [← hG] at this
    unfold maxLen at this
    omega
  have hRl : ROW.length = G * 1 := by
    rw [hROW, Array.length_toList, Array.size_append, Array.size_append, size_zeroCells, size_zeroCells, List.size_toArray, htl]
    have : ((.int .i64 0) : Value).cells.size = 1 := by kernel_rfl
    rw [this]
    omega
  have hRt : ROW.take (i) = xs.take (i) := by
    rw [hROW, Array.toList_append, Array.toList_append, List.append_assoc]
    have h0 : (xs.take (i)).length = i := by omega
    show ((xs.take (i)) ++ _).take (i) = _
    rw [List.take_append_of_le_length (by omega), List.take_of_length_le (by omega)]
  have hAl : (insA ROW ys (i)).length = ROW.length := insA_length (by omega)
  have hBl : (insB ROW xs ys (i)).length = ROW.length := insB_length (by omega) (by omega)
  have hBt : (insB ROW xs ys (i)).take ((n + 1) * 1) = xs.take (i * 1) ++ ys ++ xs.drop (i * 1) := by
    have := insB_take (L := ROW) (xs := xs) (ys := ys) (k := i) hRt (by omega) (by omega)
    rw [show xs.length + ys.length = (n + 1) * 1 by omega] at this
    rw [this]
    first | done | rw [show i * 1 = i by omega]
  have hcpA : ∀ W : World, W.heap[w.heap.size]? = some (.cells ROW.toArray 3 (0, 0)) → W.heap[vb]? = some (.cells ys.toArray 3 (0, 0)) → ∀ ty dc, (Builtin.copy_ #[25, 25] ty #[.slice (some ⟨w.heap.size, i, none⟩) (n + 1 - i) dc, .slice (some ⟨vb, 0, none⟩) 1 1]).run Tryz.prog W = .ok (goInt (Nat.min 1 (n + 1 - i))) (W.setRow w.heap.size (insA ROW ys (i)).toArray) := fun W h1 h2 ty dc => by
    have h := copyK_run (P := Tryz.prog) W 25 25 ty 3 1 w.heap.size (i) (n + 1 - i) dc ⟨vb, 0, none⟩ 1 1 _ 3 ys hT hsz h1 (by rw [hyl]; simp only [Nat.min_def]; split <;> omega)
      (fun j v hj => by rw [Addr.add_lit, row_cell h2]; simpa using hj) (by rw [List.size_toArray]; omega) h1y
    exact h
  have hcpB : ∀ W : World, W.heap[w.heap.size]? = some (.cells (insA ROW ys (i)).toArray 3 (0, 0)) → W.heap[g]? = some (.cells cur 3 (0, 0)) → ∀ ty dc sc, (Builtin.copy_ #[25, 25] ty #[.slice (some ⟨w.heap.size, i + 1, none⟩) (n - i) dc, .slice (some ⟨g, i, none⟩) (n - i) sc]).run Tryz.prog W = .ok (goInt (Nat.min (n - i) (n - i))) (W.setRow w.heap.size (insB ROW xs ys (i)).toArray) := fun W h1 h2 ty dc sc => by
    have hdl : (xs.drop (i)).length = (n - i) * 1 := by rw [List.length_drop, hxl]; omega
    have h := copyK_run (P := Tryz.prog) W 25 25 ty 3 1 w.heap.size (i + 1) (n - i) dc ⟨g, i, none⟩ (n - i) sc _ 3 (xs.drop (i)) hT hsz h1 (by rw [hdl]; simp only [Nat.min_def]; split <;> omega)
      (fun j v hj => by rw [Addr.add_lit, row_cell h2]; exact getq_drop hL hj) (by rw [List.size_toArray, hAl, hdl]; omega) (fun v hv => h1x v (List.mem_of_mem_drop hv))
    have hR : (insA ROW ys (i)).toArray.toList.take (i + 1) ++ xs.drop (i) ++ (insA ROW ys (i)).toArray.toList.drop (i + 1 + (xs.drop (i)).length) = insB ROW xs ys (i) := by
      rw [insB, List.length_drop, show i + 1 = i + ys.length by omega]
    rw [hR] at h
    exact h
  have hA1 : ∀ W : World, W.heap = (w.alloc (.cells ROW.toArray 3)).heap → W.heap[w.heap.size]? = some (.cells ROW.toArray 3 (0, 0)) ∧ W.heap[vb]? = some (.cells ys.toArray 3 (0, 0)) ∧ W.heap[g]? = some (.cells cur 3 (0, 0)) := fun W hW => by
    rw [hW]
    exact ⟨heap_alloc_new w _, (heap_alloc_old w _ hvw).trans hvb, (heap_alloc_old w _ hgw).trans hg⟩
  have hgN : g ≠ w.heap.size := by omega
  have RA : ∀ W : World, W.heap = (w.alloc (.cells ROW.toArray 3)).heap → ∀ ty dc, (Builtin.copy_ #[25, 25] ty #[.slice (some ⟨w.heap.size, i, none⟩) (n + 1 - i) dc, .slice (some ⟨vb, 0, none⟩) 1 1]).run Tryz.prog W = .ok (goInt (Nat.min 1 (n + 1 - i))) (W.setRow w.heap.size (insA ROW ys (i)).toArray) := fun W hW ty dc => hcpA W (hA1 W hW).1 (hA1 W hW).2.1 ty dc
  have RB : ∀ W : World, W.heap = (w.alloc (.cells ROW.toArray 3)).heap → ∀ W2 : World, W2.heap = (W.setRow w.heap.size (insA ROW ys (i)).toArray).heap → ∀ ty dc sc, (Builtin.copy_ #[25, 25] ty #[.slice (some ⟨w.heap.size, i + 1, none⟩) (n - i) dc, .slice (some ⟨g, i, none⟩) (n - i) sc]).run Tryz.prog W2 = .ok (goInt (Nat.min (n - i) (n - i))) (W2.setRow w.heap.size (insB ROW xs ys (i)).toArray) := fun W hW W2 hW2 ty dc sc =>
    hcpB W2 (by rw [hW2]; exact setRow_heap _ _ _ _ _ _ (hA1 W hW).1) (by rw [hW2, setRow_other _ _ _ _ hgN]; exact (hA1 W hW).2.2) ty dc sc
  have HRZ := Aside0.mk hrz
  have HRA := Aside0.mk RA
  have HRB := Aside0.mk RB
  have FIN : Aside0 (∀ W : World, W.heap = (w.alloc (.cells ROW.toArray 3)).heap → w.grownBy W (some g) → ∀ W2 : World, W2.heap = (W.setRow w.heap.size (insA ROW ys (i)).toArray).heap → w.grownBy W2 (some g) → InsPost base 3 1 w (.slice (some ⟨g, 0, none⟩) n n) (n + 1) (xs.take (i * 1) ++ ys ++ xs.drop (i * 1)) (.returned (.slice (some ⟨w.heap.size, 0, none⟩) (n + 1) G)) (W2.setRow w.heap.size (insB ROW xs ys (i)).toArray)) := ⟨fun W hW hgW W2 hW2 hg2 =>
    ⟨_, rfl, Ins.own hbase (setRow_heap _ _ _ _ _ _ (by rw [hW2]; exact setRow_heap _ _ _ _ _ _ (hA1 W hW).1)) (by unfold maxLen; omega) hGn (by rw [hBl, hRl]) hBt, grown_setRow hg2 _ _ (.inr (Nat.le_refl _)), .inr ⟨_, rfl, Nat.le_refl _⟩⟩⟩
  have hw1 : IntKind.i64.wrap ((i : Int) + 1) = (i : Int) + 1 := by rw [IntKind.wrap_i64]; omega
  have hw2 : IntKind.i64.wrap ((n : Int) + 1) = (n : Int) + 1 := by rw [IntKind.wrap_i64]; omega
  have hw3 : IntKind.i64.wrap ((n : Int) + 1 - i) = (n : Int) + 1 - i := by rw [IntKind.wrap_i64]; omega
  have htn : ((i : Int) + 1).toNat = i + 1 := by omega
  have hin : i ≤ n := by omega
  have hb2 : ¬ (G = i + 1) := by omega
  have hb4 : ¬ (G = i) := by omega
  have hb5 : ¬ (n = i) := by omega
  have hb3 : (i : Int) ≤ (n : Int) + 1 := by omega
  have hb6 : (0 : Int) ≤ (i : Int) + 1 := by omega
  clear hrz RA RB hcpA hcpB hA1 hg hvb hL hxl hyl h1x h1y hsz hT hTi hinfo hi0 hz0 hzs hzb hold hROW hRl hRt hAl hBl hBt htl hcn hcl hG
  have mixed : Tryz.prog.follows .mixedOrders = true := by kernel_rfl
  go_enter Tryz.func46, Tryz.ntmps46
  go_wp2_with (first
    | (at_builtin; refine Go.Lib.wpList_append_run _ rfl _ _ _ _ rfl _ _ rfl rfl _ _ (HRZ.out _) ?_)
    | (simp only [HRA.out (w.drew.alloc (.cells ROW.toArray 3)) rfl, HRA.out ((w.alloc (.cells ROW.toArray 3)).drew) rfl]))
  go_region_law_o (refine Go.Proofs.step_copy_runI rfl _ _ 25 25 rfl (.slice (some ⟨w.heap.size, i + 1, none⟩) (n - i) (G - (i + 1))) (.slice (some ⟨g, i, none⟩) (n - i) (n - i)) (by simp [Act.eval, Act.put]) (by simp [Act.eval, Act.put]) (HRB.out (w.alloc (.cells ROW.toArray 3)).drew rfl (((w.alloc (.cells ROW.toArray 3)).drew.setRow w.heap.size (insA ROW ys (i)).toArray).drew) rfl 3 (G - (i + 1)) (n - i)) ?_)
  go_wp2
  go_ret
  exact FIN.out (w.alloc (.cells ROW.toArray 3)).drew rfl (grown_drew (grown_alloc (World.grownBy.refl w _) _)) (((w.alloc (.cells ROW.toArray 3)).drew.setRow w.heap.size (insA ROW ys (i)).toArray).drew) rfl (grown_drew (grown_setRow (grown_drew (grown_alloc (World.grownBy.refl w _) _)) _ _ (.inr (Nat.le_refl _))))

set_option maxHeartbeats 1000000 in
set_option maxRecDepth 100000 in
theorem insert_int_end (base : Nat) (w : World) (n vb : Nat) (v : Value) (xs ys : List Value) (hbase : base ≤ w.heap.size) (hbig : (n + 1) * 8 ≤ 140737488355328) (hown : w.ownsRow base 3 1 v n xs) (hyl : ys.length = 1) (hvb : w.heap[vb]? = some (.cells ys.toArray 3 (0, 0))) (h1y : ∀ v ∈ ys, v.oneCell' = true) :
    Calls Tryz.prog 46 #[v, .int .i64 n, .slice (some ⟨vb, 0, none⟩) 1 1] w (InsPost base 3 1 w v (n + 1) (xs ++ ys)) := by
  have hT : Tryz.prog.underlying 25 = some (.slice 3) := by kernel_rfl
  have hinfo : (Tryz.prog.info? 3).map (fun i => (i.zero, i.size, i.bytes)) = some (some (.int .i64 0), 1, 8) := by kernel_rfl
  obtain ⟨i0, hi0, hzz⟩ := Option.map_eq_some_iff.1 hinfo
  simp only [Prod.mk.injEq] at hzz
  obtain ⟨hz0, hzs, hzb⟩ := hzz
  have hln : n + 1 ≤ maxLen := by unfold maxLen; omega
  have HO := Aside0.mk hown
  rcases hown.2 with ⟨rfl, rfl⟩ | ⟨g, cap, cur, rfl, _, _, hnc, hcm, _⟩
  · clear hown
    go_enter Tryz.func46, Tryz.ntmps46
    go_wp2_with (at_builtin; refine wpList_append_own_at w rfl _ _ 25 rfl base 3 i0 _ 1 8 hT hi0 hz0 hzs hzb (by kernel_rfl) (by omega) _ _ xs rfl HO.out ⟨vb, 0, none⟩ 1 1 ys rfl (by omega) (fun j u hj => by rw [Addr.add_lit, row_cell hvb]; simpa using hj) h1y hln hbig hbase ?_; intro v1 w1 k1 k2 k3 k4)
    go_ret
    exact ⟨_, rfl, k1, k2, k4.elim .inl (fun h => .inr ⟨_, h, Nat.le_refl _⟩)⟩
  · unfold maxLen at hcm
    clear hown
    go_enter Tryz.func46, Tryz.ntmps46
    go_wp2_with (at_builtin; refine wpList_append_own_at w rfl _ _ 25 rfl base 3 i0 _ 1 8 hT hi0 hz0 hzs hzb (by kernel_rfl) (by omega) _ _ xs rfl HO.out ⟨vb, 0, none⟩ 1 1 ys rfl (by omega) (fun j u hj => by rw [Addr.add_lit, row_cell hvb]; simpa using hj) h1y hln hbig hbase ?_; intro v1 w1 k1 k2 k3 k4)
    all_goals go_ret
    all_goals exact ⟨_, rfl, k1, k2, k4.elim .inl (fun h => .inr ⟨_, h, Nat.le_refl _⟩)⟩
theorem insert_int_calls (base : Nat) (w : World) (n i vb : Nat) (v : Value) (xs ys : List Value) (hi : i ≤ n) (hbase : base ≤ w.heap.size) (hbig : (n + 1) * 8 ≤ 140737488355328) (hown : w.ownsRow base 3 1 v n xs) (hyl : ys.length = 1) (hvb : w.heap[vb]? = some (.cells ys.toArray 3 (0, 0))) (hne : some vb ≠ v.ownBlock) (h1x : ∀ v ∈ xs, v.oneCell' = true) (h1y : ∀ v ∈ ys, v.oneCell' = true) :
    Calls Tryz.prog 46 #[v, .int .i64 i, .slice (some ⟨vb, 0, none⟩) 1 1] w (InsPost base 3 1 w v (n + 1) (xs.take (i * 1) ++ ys ++ xs.drop (i * 1))) := by
  have hxl : xs.length = n * 1 := hown.1
  rcases Nat.lt_or_ge i n with hlt | hge
  · rcases hown.2 with ⟨rfl, rfl⟩ | ⟨g, cap, cur, rfl, hbg, hg, hnc, hcm, hcs, ht⟩
    · omega
    · have hL : cur.toList.take xs.length = xs := by rw [hxl]; exact ht
      have hm : cap ≤ 9223372036854775807 := by unfold maxLen at hcm; exact hcm
      by_cases hcap : n + 1 ≤ cap
      · have hcl : cur.toList.length = cur.size := Array.length_toList
        refine (insert_int_shift w g n cap i vb cur xs ys hlt hcap hm hg hcs hxl hL hyl hvb (fun he => hne (by rw [he]; rfl)) h1x h1y).mono ?_
        rintro e w1 ⟨rfl, rfl⟩
        have h2 := insRow2_take (L := cur.toList) (xs := xs) (ys := ys) (k := i) (sz := 1) hL (by omega) (by omega) hyl
        have h3 := insRow2_length (L := cur.toList) (xs := xs) (ys := ys) (k := i) (sz := 1) (by omega) (by omega) hyl
        refine ⟨_, rfl, Ins.own hbg (setRow_heap _ _ _ _ _ _ (setRow_heap _ _ _ _ _ _ hg)) hcm hcap (by omega) ?_, grown_setRow (grown_setRow (grown_drew (World.grownBy.refl w _)) _ _ (.inl rfl)) _ _ (.inl rfl), .inl rfl⟩
        rw [show (n + 1) * 1 = xs.length + 1 by omega, h2]
        first | done | rw [show i * 1 = i by omega]
      · obtain rfl : cap = n := by omega
        exact insert_int_grow base w g cap i vb cur xs ys hlt hbase hbig hg hxl hL hyl hvb h1x h1y
  · obtain rfl : i = n := by omega
    have h := insert_int_end base w i vb v xs ys hbase hbig hown hyl hvb h1y
    rw [List.take_of_length_le (by omega), List.drop_eq_nil_of_le (by omega), List.append_nil]
    exact h


set_option maxHeartbeats 1000000 in
set_option maxRecDepth 100000 in
theorem insert_bool_shift (w : World) (g n cap i vb : Nat) (cur : Array Value) (xs ys : List Value) (hi : i < n) (hcap : n + 1 ≤ cap) (hc63 : cap ≤ 9223372036854775807) (hg : w.heap[g]? = some (.cells cur 4 (0, 0))) (hcs : cur.size = cap * 1)
    (hxl : xs.length = n * 1) (hL : cur.toList.take xs.length = xs) (hyl : ys.length = 1) (hvb : w.heap[vb]? = some (.cells ys.toArray 4 (0, 0))) (hne : vb ≠ g) (h1x : ∀ v ∈ xs, v.oneCell' = true) (h1y : ∀ v ∈ ys, v.oneCell' = true) :
    Calls Tryz.prog 47 #[.slice (some ⟨g, 0, none⟩) n cap, .int .i64 i, .slice (some ⟨vb, 0, none⟩) 1 1] w fun e w' => e = .returned (.slice (some ⟨g, 0, none⟩) (n + 1) cap) ∧
      w' = (w.drew.setRow g (insRow1 cur.toList xs (i) 1).toArray).setRow g (insRow2 cur.toList xs ys (i) 1).toArray := by
  have hz2 : ¬ ((i : Int) = (n : Int)) := by omega
  have hz3 : ¬ ((cap : Int) < (n : Int) + 1) := by omega
  have hT : Tryz.prog.underlying 26 = some (.slice 4) := by kernel_rfl
  have hsz : (Tryz.prog.info? 4).map (·.size) = some 1 := by kernel_rfl
  have hcap0 : cur.size ≠ 0 := by omega
  have hov : ∀ lb cb, (callFunc 79 #[.slice (some ⟨vb, 0, none⟩) 1 1, .slice (some ⟨g, i + 1, none⟩) lb cb]).run Tryz.prog w = .ok (.value (.bool false)) w := fun lb cb => by
    rw [run_callFunc_extern Tryz.func79 (by kernel_rfl) (by kernel_rfl) (by kernel_rfl) (e := Extern.SlicesOverlaps.overlaps #[26, 26] #[4]) (by kernel_rfl),
      Lib.run_overlaps_apart w 26 4 4 hT 1 (fun w => by kernel_rfl) ⟨vb, 0, none⟩ ⟨g, i + 1, none⟩ 1 1 lb cb hne 4 4 ys.length cur.size (by simp [World.shape?, hvb]) (by simp [World.shape?, hg]) hcap0 (by simp [World.frozen?, hvb]) (by simp [World.frozen?, hvb])]
    rfl
  have hr1 : ((w.drew.setRow g (insRow1 cur.toList xs (i) 1).toArray)).heap[g]? = some (.cells (insRow1 cur.toList xs (i) 1).toArray 4 (0, 0)) := setRow_heap _ _ _ _ _ _ hg
  have hcl : cur.toList.length = cur.size := Array.length_toList
  have hlen1 : (insRow1 cur.toList xs (i) 1).length = cur.toList.length := insRow1_length (by omega) (by omega)
  have hdl : (xs.drop (i)).length = (n - i) * 1 := by rw [List.length_drop, hxl]; omega
  have hcp1 : ∀ ty dc sc, (Builtin.copy_ #[26, 26] ty #[.slice (some ⟨g, i + 1, none⟩) (n - i) dc, .slice (some ⟨g, i, none⟩) (n + 1 - i) sc]).run Tryz.prog w.drew = .ok (goInt (Nat.min (n + 1 - i) (n - i))) (w.drew.setRow g (insRow1 cur.toList xs (i) 1).toArray) := fun ty dc sc => by
    have h := copyK_run (P := Tryz.prog) w.drew 26 26 ty 4 1 g (i + 1) (n - i) dc ⟨g, i, none⟩ (n + 1 - i) sc cur 4 (xs.drop (i)) hT hsz hg (by rw [hdl]; simp only [Nat.min_def]; split <;> omega)
      (fun j v hj => by rw [Addr.add_lit, row_cell (w := w.drew) hg]; exact getq_drop hL hj) (by rw [hdl]; omega) (fun v hv => h1x v (List.mem_of_mem_drop hv))
    have hR : cur.toList.take (i + 1) ++ xs.drop (i) ++ cur.toList.drop (i + 1 + (xs.drop (i)).length) = insRow1 cur.toList xs (i) 1 := by
      rw [insRow1, hdl, hxl, show i + 1 = i + 1 by omega, show n * 1 - i = (n - i) * 1 by omega]
    rw [hR] at h
    exact h
  have hcp2 : ∀ ty dc, (Builtin.copy_ #[26, 26] ty #[.slice (some ⟨g, i, none⟩) (n + 1 - i) dc, .slice (some ⟨vb, 0, none⟩) 1 1]).run Tryz.prog (w.drew.setRow g (insRow1 cur.toList xs (i) 1).toArray) = .ok (goInt (Nat.min 1 (n + 1 - i))) ((w.drew.setRow g (insRow1 cur.toList xs (i) 1).toArray).setRow g (insRow2 cur.toList xs ys (i) 1).toArray) := fun ty dc => by
    have h := copyK_run (P := Tryz.prog) (w.drew.setRow g (insRow1 cur.toList xs (i) 1).toArray) 26 26 ty 4 1 g (i) (n + 1 - i) dc ⟨vb, 0, none⟩ 1 1 _ 4 ys hT hsz hr1 (by rw [hyl]; simp only [Nat.min_def]; split <;> omega)
      (fun j v hj => by rw [Addr.add_lit, cell_setRow_other _ _ _ _ (by exact hne), row_cell (w := w.drew) hvb]; simpa using hj) (by rw [List.size_toArray, hlen1]; omega) h1y
    have hR2 : (insRow1 cur.toList xs (i) 1).toArray.toList.take (i) ++ ys ++ (insRow1 cur.toList xs (i) 1).toArray.toList.drop (i + ys.length) = insRow2 cur.toList xs ys (i) 1 := by
      simp only [insRow2, hyl, Nat.mul_one]
    rw [hR2] at h
    exact h
  have HC1 := Aside0.mk hcp1
  have HC2 := Aside0.mk hcp2
  have hw1 : IntKind.i64.wrap ((i : Int) + 1) = (i : Int) + 1 := by rw [IntKind.wrap_i64]; omega
  have hw2 : IntKind.i64.wrap ((n : Int) + 1) = (n : Int) + 1 := by rw [IntKind.wrap_i64]; omega
  have htn : ((i : Int) + 1).toNat = i + 1 := by omega
  have htm : ((n : Int) + 1).toNat = n + 1 := by omega
  have hin : i ≤ n := by omega
  have hb2 : ¬ (cap = i + 1) := by omega
  have hb4 : ¬ (cap = i) := by omega
  have hb3 : (i : Int) ≤ (n : Int) + 1 := by omega
  have hb5 : (n : Int) + 1 ≤ (cap : Int) := by omega
  have hb6 : (0 : Int) ≤ (i : Int) + 1 := by omega
  clear hcp1 hcp2 hr1 hlen1 hdl hg hvb hL hxl hcs hyl h1x h1y hcap0 hsz hT
  have mixed : Tryz.prog.follows .mixedOrders = true := by kernel_rfl
  go_enter Tryz.func47, Tryz.ntmps47
  go_wp2_with (simp only [hov])
  go_region_law_o (refine Go.Proofs.step_copy_runI rfl _ _ 26 26 rfl (.slice (some ⟨g, i + 1, none⟩) (n - i) (cap - (i + 1))) (.slice (some ⟨g, i, none⟩) (n + 1 - i) (cap - i)) (by simp [Act.eval, Act.put]) (by simp [Act.eval, Act.put]) (HC1.out 3 (cap - (i + 1)) (cap - i)) ?_)
  go_wp2_with (simp only [HC2.out])
  go_ret
  exact ⟨rfl, rfl⟩
set_option maxHeartbeats 1000000 in
set_option maxRecDepth 100000 in
theorem insert_bool_grow (base : Nat) (w : World) (g n i vb : Nat) (cur : Array Value) (xs ys : List Value) (hi : i < n) (hbase : base ≤ w.heap.size) (hbig : (n + 1) * 1 ≤ 140737488355328) (hg : w.heap[g]? = some (.cells cur 4 (0, 0)))
    (hxl : xs.length = n * 1) (hL : cur.toList.take xs.length = xs) (hyl : ys.length = 1) (hvb : w.heap[vb]? = some (.cells ys.toArray 4 (0, 0))) (h1x : ∀ v ∈ xs, v.oneCell' = true) (h1y : ∀ v ∈ ys, v.oneCell' = true) :
    Calls Tryz.prog 47 #[.slice (some ⟨g, 0, none⟩) n n, .int .i64 i, .slice (some ⟨vb, 0, none⟩) 1 1] w (InsPost base 4 1 w (.slice (some ⟨g, 0, none⟩) n n) (n + 1) (xs.take (i * 1) ++ ys ++ xs.drop (i * 1))) := by
  have hz2 : ¬ ((i : Int) = (n : Int)) := by omega
  have hz3 : (n : Int) < (n : Int) + 1 := by omega
  have hT : Tryz.prog.underlying 26 = some (.slice 4) := by kernel_rfl
  have hTi : Tryz.prog.underlying 3 = some (.int .i64) := by kernel_rfl
  have hsz : (Tryz.prog.info? 4).map (·.size) = some 1 := by kernel_rfl
  have hinfo : (Tryz.prog.info? 4).map (fun i => (i.zero, i.size, i.bytes)) = some (some (.bool false), 1, 1) := by kernel_rfl
  obtain ⟨i0, hi0, hzz⟩ := Option.map_eq_some_iff.1 hinfo
  simp only [Prod.mk.injEq] at hzz
  obtain ⟨hz0, hzs, hzb⟩ := hzz
  have hgw : g < w.heap.size := (Array.getElem?_eq_some_iff.1 hg).1
  have hvw : vb < w.heap.size := (Array.getElem?_eq_some_iff.1 hvb).1
  have hcl : cur.toList.length = cur.size := Array.length_toList
  have hcn : n * 1 ≤ cur.size := by have := congrArg List.length hL; rw [List.length_take] at this; omega
  have htl : (xs.take (i)).length = i * 1 := by rw [List.length_take]; omega
  have hold : (Builtin.firstCells i0.size i (.slice (some ⟨g, 0, none⟩) i n)).run Tryz.prog w.drew = .ok (xs.take (i)).toArray w.drew := by
    rw [hzs]
    exact run_firstCells_some w.drew 1 i ⟨g, 0, none⟩ i n (xs.take (i)) htl (fun j v hj => by
      rw [Addr.add_lit, row_cell (w := w.drew) hg, Nat.zero_add]
      rw [List.getElem?_take] at hj
      split at hj
      · exact (getq_drop (k := 0) hL (by rw [List.drop_zero]; exact hj)).symm ▸ (by rw [Nat.zero_add])
      · cases hj)
  obtain ⟨G, hG⟩ : ∃ G, G = Go.grownCap w (n + 1) n 4 := ⟨_, rfl⟩
  obtain ⟨ROW, hROW⟩ : ∃ ROW : List Value, ROW = ((xs.take (i)).toArray ++ Builtin.zeroCells ((.bool false) : Value).cells (n + 1 - i) ++ Builtin.zeroCells ((.bool false) : Value).cells (G - (n + 1))).toList := ⟨_, rfl⟩
  have hrz : ∀ ty, (Builtin.append_ #[26, 3] ty #[.slice (some ⟨g, 0, none⟩) i n, .int .i64 ((n : Int) + 1 - (i : Int))]).run Tryz.prog w = .ok (.slice (some ⟨w.heap.size, 0, none⟩) (n + 1) G) (w.drew.alloc (.cells ROW.toArray 4)) := fun ty => by
    have hik : i + (n + 1 - i) = n + 1 := by omega
    have h := Lib.run_append_grow_zeros w 26 3 ty 4 i0 _ .i64 .i64 hT hTi hi0 hz0 (some ⟨g, 0, none⟩) i n (xs.take (i)) hold (n + 1 - i) (by omega) (by omega) (by omega) (by omega) (by rw [hzb]; omega) (by rw [hzb, hik]; exact growslice_fits (by omega) hbig)
    rw [hik] at h
    rw [show (n : Int) + 1 - (i : Int) = ((n + 1 - i : Nat) : Int) by omega, hROW, hG]
    exact h
  have hGn : n + 1 ≤ G := by rw [hG]; exact Go.grownCap_ge w _ _ _
  have hG63 : G ≤ 9223372036854775807 := by
    have := Go.grownCap_le_maxLen w (n + 1) n 4 (by unfold maxLen; omega)
    rw [← hG] at this
    unfold maxLen at this
    omega
  have hRl : ROW.length = G * 1 := by
    rw [hROW, Array.length_toList, Array.size_append, Array.size_append, size_zeroCells, size_zeroCells, List.size_toArray, htl]
    have : ((.bool false) : Value).cells.size = 1 := by kernel_rfl
    rw [this]
    omega
  have hRt : ROW.take (i) = xs.take (i) := by
    rw [hROW, Array.toList_append, Array.toList_append, List.append_assoc]
    have h0 : (xs.take (i)).length = i := by omega
    show ((xs.take (i)) ++ _).take (i) = _
    rw [List.take_append_of_le_length (by omega), List.take_of_length_le (by omega)]
  have hAl : (insA ROW ys (i)).length = ROW.length := insA_length (by omega)
  have hBl : (insB ROW xs ys (i)).length = ROW.length := insB_length (by omega) (by omega)
  have hBt : (insB ROW xs ys (i)).take ((n + 1) * 1) = xs.take (i * 1) ++ ys ++ xs.drop (i * 1) := by
    have := insB_take (L := ROW) (xs := xs) (ys := ys) (k := i) hRt (by omega) (by omega)
    rw [show xs.length + ys.length = (n + 1) * 1 by omega] at this
    rw [this]
    first | done | rw [show i * 1 = i by omega]
  have hcpA : ∀ W : World, W.heap[w.heap.size]? = some (.cells ROW.toArray 4 (0, 0)) → W.heap[vb]? = some (.cells ys.toArray 4 (0, 0)) → ∀ ty dc, (Builtin.copy_ #[26, 26] ty #[.slice (some ⟨w.heap.size, i, none⟩) (n + 1 - i) dc, .slice (some ⟨vb, 0, none⟩) 1 1]).run Tryz.prog W = .ok (goInt (Nat.min 1 (n + 1 - i))) (W.setRow w.heap.size (insA ROW ys (i)).toArray) := fun W h1 h2 ty dc => by
    have h := copyK_run (P := Tryz.prog) W 26 26 ty 4 1 w.heap.size (i) (n + 1 - i) dc ⟨vb, 0, none⟩ 1 1 _ 4 ys hT hsz h1 (by rw [hyl]; simp only [Nat.min_def]; split <;> omega)
      (fun j v hj => by rw [Addr.add_lit, row_cell h2]; simpa using hj) (by rw [List.size_toArray]; omega) h1y
    exact h
  have hcpB : ∀ W : World, W.heap[w.heap.size]? = some (.cells (insA ROW ys (i)).toArray 4 (0, 0)) → W.heap[g]? = some (.cells cur 4 (0, 0)) → ∀ ty dc sc, (Builtin.copy_ #[26, 26] ty #[.slice (some ⟨w.heap.size, i + 1, none⟩) (n - i) dc, .slice (some ⟨g, i, none⟩) (n - i) sc]).run Tryz.prog W = .ok (goInt (Nat.min (n - i) (n - i))) (W.setRow w.heap.size (insB ROW xs ys (i)).toArray) := fun W h1 h2 ty dc sc => by
    have hdl : (xs.drop (i)).length = (n - i) * 1 := by rw [List.length_drop, hxl]; omega
    have h := copyK_run (P := Tryz.prog) W 26 26 ty 4 1 w.heap.size (i + 1) (n - i) dc ⟨g, i, none⟩ (n - i) sc _ 4 (xs.drop (i)) hT hsz h1 (by rw [hdl]; simp only [Nat.min_def]; split <;> omega)
      (fun j v hj => by rw [Addr.add_lit, row_cell h2]; exact getq_drop hL hj) (by rw [List.size_toArray, hAl, hdl]; omega) (fun v hv => h1x v (List.mem_of_mem_drop hv))
    have hR : (insA ROW ys (i)).toArray.toList.take (i + 1) ++ xs.drop (i) ++ (insA ROW ys (i)).toArray.toList.drop (i + 1 + (xs.drop (i)).length) = insB ROW xs ys (i) := by
      rw [insB, List.length_drop, show i + 1 = i + ys.length by omega]
    rw [hR] at h
    exact h
  have hA1 : ∀ W : World, W.heap = (w.alloc (.cells ROW.toArray 4)).heap → W.heap[w.heap.size]? = some (.cells ROW.toArray 4 (0, 0)) ∧ W.heap[vb]? = some (.cells ys.toArray 4 (0, 0)) ∧ W.heap[g]? = some (.cells cur 4 (0, 0)) := fun W hW => by
    rw [hW]
    exact ⟨heap_alloc_new w _, (heap_alloc_old w _ hvw).trans hvb, (heap_alloc_old w _ hgw).trans hg⟩
  have hgN : g ≠ w.heap.size := by omega
  have RA : ∀ W : World, W.heap = (w.alloc (.cells ROW.toArray 4)).heap → ∀ ty dc, (Builtin.copy_ #[26, 26] ty #[.slice (some ⟨w.heap.size, i, none⟩) (n + 1 - i) dc, .slice (some ⟨vb, 0, none⟩) 1 1]).run Tryz.prog W = .ok (goInt (Nat.min 1 (n + 1 - i))) (W.setRow w.heap.size (insA ROW ys (i)).toArray) := fun W hW ty dc => hcpA W (hA1 W hW).1 (hA1 W hW).2.1 ty dc
  have RB : ∀ W : World, W.heap = (w.alloc (.cells ROW.toArray 4)).heap → ∀ W2 : World, W2.heap = (W.setRow w.heap.size (insA ROW ys (i)).toArray).heap → ∀ ty dc sc, (Builtin.copy_ #[26, 26] ty #[.slice (some ⟨w.heap.size, i + 1, none⟩) (n - i) dc, .slice (some ⟨g, i, none⟩) (n - i) sc]).run Tryz.prog W2 = .ok (goInt (Nat.min (n - i) (n - i))) (W2.setRow w.heap.size (insB ROW xs ys (i)).toArray) := fun W hW W2 hW2 ty dc sc =>
    hcpB W2 (by rw [hW2]; exact setRow_heap _ _ _ _ _ _ (hA1 W hW).1) (by rw [hW2, setRow_other _ _ _ _ hgN]; exact (hA1 W hW).2.2) ty dc sc
  have HRZ := Aside0.mk hrz
  have HRA := Aside0.mk RA
  have HRB := Aside0.mk RB
  have FIN : Aside0 (∀ W : World, W.heap = (w.alloc (.cells ROW.toArray 4)).heap → w.grownBy W (some g) → ∀ W2 : World, W2.heap = (W.setRow w.heap.size (insA ROW ys (i)).toArray).heap → w.grownBy W2 (some g) → InsPost base 4 1 w (.slice (some ⟨g, 0, none⟩) n n) (n + 1) (xs.take (i * 1) ++ ys ++ xs.drop (i * 1)) (.returned (.slice (some ⟨w.heap.size, 0, none⟩) (n + 1) G)) (W2.setRow w.heap.size (insB ROW xs ys (i)).toArray)) := ⟨fun W hW hgW W2 hW2 hg2 =>
    ⟨_, rfl, Ins.own hbase (setRow_heap _ _ _ _ _ _ (by rw [hW2]; exact setRow_heap _ _ _ _ _ _ (hA1 W hW).1)) (by unfold maxLen; omega) hGn (by rw [hBl, hRl]) hBt, grown_setRow hg2 _ _ (.inr (Nat.le_refl _)), .inr ⟨_, rfl, Nat.le_refl _⟩⟩⟩
  have hw1 : IntKind.i64.wrap ((i : Int) + 1) = (i : Int) + 1 := by rw [IntKind.wrap_i64]; omega
  have hw2 : IntKind.i64.wrap ((n : Int) + 1) = (n : Int) + 1 := by rw [IntKind.wrap_i64]; omega
  have hw3 : IntKind.i64.wrap ((n : Int) + 1 - i) = (n : Int) + 1 - i := by rw [IntKind.wrap_i64]; omega
  have htn : ((i : Int) + 1).toNat = i + 1 := by omega
  have hin : i ≤ n := by omega
  have hb2 : ¬ (G = i + 1) := by omega
  have hb4 : ¬ (G = i) := by omega
  have hb5 : ¬ (n = i) := by omega
  have hb3 : (i : Int) ≤ (n : Int) + 1 := by omega
  have hb6 : (0 : Int) ≤ (i : Int) + 1 := by omega
  clear hrz RA RB hcpA hcpB hA1 hg hvb hL hxl hyl h1x h1y hsz hT hTi hinfo hi0 hz0 hzs hzb hold hROW hRl hRt hAl hBl hBt htl hcn hcl hG
  have mixed : Tryz.prog.follows .mixedOrders = true := by kernel_rfl
  go_enter Tryz.func47, Tryz.ntmps47
  go_wp2_with (first
    | (at_builtin; refine Go.Lib.wpList_append_run _ rfl _ _ _ _ rfl _ _ rfl rfl _ _ (HRZ.out _) ?_)
    | (simp only [HRA.out (w.drew.alloc (.cells ROW.toArray 4)) rfl, HRA.out ((w.alloc (.cells ROW.toArray 4)).drew) rfl]))
  go_region_law_o (refine Go.Proofs.step_copy_runI rfl _ _ 26 26 rfl (.slice (some ⟨w.heap.size, i + 1, none⟩) (n - i) (G - (i + 1))) (.slice (some ⟨g, i, none⟩) (n - i) (n - i)) (by simp [Act.eval, Act.put]) (by simp [Act.eval, Act.put]) (HRB.out (w.alloc (.cells ROW.toArray 4)).drew rfl (((w.alloc (.cells ROW.toArray 4)).drew.setRow w.heap.size (insA ROW ys (i)).toArray).drew) rfl 3 (G - (i + 1)) (n - i)) ?_)
  go_wp2
  go_ret
  exact FIN.out (w.alloc (.cells ROW.toArray 4)).drew rfl (grown_drew (grown_alloc (World.grownBy.refl w _) _)) (((w.alloc (.cells ROW.toArray 4)).drew.setRow w.heap.size (insA ROW ys (i)).toArray).drew) rfl (grown_drew (grown_setRow (grown_drew (grown_alloc (World.grownBy.refl w _) _)) _ _ (.inr (Nat.le_refl _))))

set_option maxHeartbeats 1000000 in
set_option maxRecDepth 100000 in
theorem insert_bool_end (base : Nat) (w : World) (n vb : Nat) (v : Value) (xs ys : List Value) (hbase : base ≤ w.heap.size) (hbig : (n + 1) * 1 ≤ 140737488355328) (hown : w.ownsRow base 4 1 v n xs) (hyl : ys.length = 1) (hvb : w.heap[vb]? = some (.cells ys.toArray 4 (0, 0))) (h1y : ∀ v ∈ ys, v.oneCell' = true) :
    Calls Tryz.prog 47 #[v, .int .i64 n, .slice (some ⟨vb, 0, none⟩) 1 1] w (InsPost base 4 1 w v (n + 1) (xs ++ ys)) := by
  have hT : Tryz.prog.underlying 26 = some (.slice 4) := by kernel_rfl
  have hinfo : (Tryz.prog.info? 4).map (fun i => (i.zero, i.size, i.bytes)) = some (some (.bool false), 1, 1) := by kernel_rfl
  obtain ⟨i0, hi0, hzz⟩ := Option.map_eq_some_iff.1 hinfo
  simp only [Prod.mk.injEq] at hzz
  obtain ⟨hz0, hzs, hzb⟩ := hzz
  have hln : n + 1 ≤ maxLen := by unfold maxLen; omega
  have HO := Aside0.mk hown
  rcases hown.2 with ⟨rfl, rfl⟩ | ⟨g, cap, cur, rfl, _, _, hnc, hcm, _⟩
  · clear hown
    go_enter Tryz.func47, Tryz.ntmps47
    go_wp2_with (at_builtin; refine wpList_append_own_at w rfl _ _ 26 rfl base 4 i0 _ 1 1 hT hi0 hz0 hzs hzb (by kernel_rfl) (by omega) _ _ xs rfl HO.out ⟨vb, 0, none⟩ 1 1 ys rfl (by omega) (fun j u hj => by rw [Addr.add_lit, row_cell hvb]; simpa using hj) h1y hln hbig hbase ?_; intro v1 w1 k1 k2 k3 k4)
    go_ret
    exact ⟨_, rfl, k1, k2, k4.elim .inl (fun h => .inr ⟨_, h, Nat.le_refl _⟩)⟩
  · unfold maxLen at hcm
    clear hown
    go_enter Tryz.func47, Tryz.ntmps47
    go_wp2_with (at_builtin; refine wpList_append_own_at w rfl _ _ 26 rfl base 4 i0 _ 1 1 hT hi0 hz0 hzs hzb (by kernel_rfl) (by omega) _ _ xs rfl HO.out ⟨vb, 0, none⟩ 1 1 ys rfl (by omega) (fun j u hj => by rw [Addr.add_lit, row_cell hvb]; simpa using hj) h1y hln hbig hbase ?_; intro v1 w1 k1 k2 k3 k4)
    all_goals go_ret
    all_goals exact ⟨_, rfl, k1, k2, k4.elim .inl (fun h => .inr ⟨_, h, Nat.le_refl _⟩)⟩
theorem insert_bool_calls (base : Nat) (w : World) (n i vb : Nat) (v : Value) (xs ys : List Value) (hi : i ≤ n) (hbase : base ≤ w.heap.size) (hbig : (n + 1) * 1 ≤ 140737488355328) (hown : w.ownsRow base 4 1 v n xs) (hyl : ys.length = 1) (hvb : w.heap[vb]? = some (.cells ys.toArray 4 (0, 0))) (hne : some vb ≠ v.ownBlock) (h1x : ∀ v ∈ xs, v.oneCell' = true) (h1y : ∀ v ∈ ys, v.oneCell' = true) :
    Calls Tryz.prog 47 #[v, .int .i64 i, .slice (some ⟨vb, 0, none⟩) 1 1] w (InsPost base 4 1 w v (n + 1) (xs.take (i * 1) ++ ys ++ xs.drop (i * 1))) := by
  have hxl : xs.length = n * 1 := hown.1
  rcases Nat.lt_or_ge i n with hlt | hge
  · rcases hown.2 with ⟨rfl, rfl⟩ | ⟨g, cap, cur, rfl, hbg, hg, hnc, hcm, hcs, ht⟩
    · omega
    · have hL : cur.toList.take xs.length = xs := by rw [hxl]; exact ht
      have hm : cap ≤ 9223372036854775807 := by unfold maxLen at hcm; exact hcm
      by_cases hcap : n + 1 ≤ cap
      · have hcl : cur.toList.length = cur.size := Array.length_toList
        refine (insert_bool_shift w g n cap i vb cur xs ys hlt hcap hm hg hcs hxl hL hyl hvb (fun he => hne (by rw [he]; rfl)) h1x h1y).mono ?_
        rintro e w1 ⟨rfl, rfl⟩
        have h2 := insRow2_take (L := cur.toList) (xs := xs) (ys := ys) (k := i) (sz := 1) hL (by omega) (by omega) hyl
        have h3 := insRow2_length (L := cur.toList) (xs := xs) (ys := ys) (k := i) (sz := 1) (by omega) (by omega) hyl
        refine ⟨_, rfl, Ins.own hbg (setRow_heap _ _ _ _ _ _ (setRow_heap _ _ _ _ _ _ hg)) hcm hcap (by omega) ?_, grown_setRow (grown_setRow (grown_drew (World.grownBy.refl w _)) _ _ (.inl rfl)) _ _ (.inl rfl), .inl rfl⟩
        rw [show (n + 1) * 1 = xs.length + 1 by omega, h2]
        first | done | rw [show i * 1 = i by omega]
      · obtain rfl : cap = n := by omega
        exact insert_bool_grow base w g cap i vb cur xs ys hlt hbase hbig hg hxl hL hyl hvb h1x h1y
  · obtain rfl : i = n := by omega
    have h := insert_bool_end base w i vb v xs ys hbase hbig hown hyl hvb h1y
    rw [List.take_of_length_le (by omega), List.drop_eq_nil_of_le (by omega), List.append_nil]
    exact h


set_option maxHeartbeats 1000000 in
set_option maxRecDepth 100000 in
theorem insert_ref_shift (w : World) (g n cap i vb : Nat) (cur : Array Value) (xs ys : List Value) (hi : i < n) (hcap : n + 1 ≤ cap) (hc63 : cap ≤ 9223372036854775807) (hg : w.heap[g]? = some (.cells cur 62 (0, 0))) (hcs : cur.size = cap * 2)
    (hxl : xs.length = n * 2) (hL : cur.toList.take xs.length = xs) (hyl : ys.length = 2) (hvb : w.heap[vb]? = some (.cells ys.toArray 62 (0, 0))) (hne : vb ≠ g) (h1x : ∀ v ∈ xs, v.oneCell' = true) (h1y : ∀ v ∈ ys, v.oneCell' = true) :
    Calls Tryz.prog 45 #[.slice (some ⟨g, 0, none⟩) n cap, .int .i64 i, .slice (some ⟨vb, 0, none⟩) 1 1] w fun e w' => e = .returned (.slice (some ⟨g, 0, none⟩) (n + 1) cap) ∧
      w' = (w.drew.setRow g (insRow1 cur.toList xs (i * 2) 2).toArray).setRow g (insRow2 cur.toList xs ys (i * 2) 2).toArray := by
  have hz2 : ¬ ((i : Int) = (n : Int)) := by omega
  have hz3 : ¬ ((cap : Int) < (n : Int) + 1) := by omega
  have hT : Tryz.prog.underlying 24 = some (.slice 62) := by kernel_rfl
  have hsz : (Tryz.prog.info? 62).map (·.size) = some 2 := by kernel_rfl
  have hcap0 : cur.size ≠ 0 := by omega
  have hov : ∀ lb cb, (callFunc 75 #[.slice (some ⟨vb, 0, none⟩) 1 1, .slice (some ⟨g, (i + 1) * 2, none⟩) lb cb]).run Tryz.prog w = .ok (.value (.bool false)) w := fun lb cb => by
    rw [run_callFunc_extern Tryz.func75 (by kernel_rfl) (by kernel_rfl) (by kernel_rfl) (e := Extern.SlicesOverlaps.overlaps #[24, 24] #[4]) (by kernel_rfl),
      Lib.run_overlaps_apart w 24 4 62 hT 2 (fun w => by kernel_rfl) ⟨vb, 0, none⟩ ⟨g, (i + 1) * 2, none⟩ 1 1 lb cb hne 62 62 ys.length cur.size (by simp [World.shape?, hvb]) (by simp [World.shape?, hg]) hcap0 (by simp [World.frozen?, hvb]) (by simp [World.frozen?, hvb])]
    rfl
  have hr1 : ((w.drew.setRow g (insRow1 cur.toList xs (i * 2) 2).toArray)).heap[g]? = some (.cells (insRow1 cur.toList xs (i * 2) 2).toArray 62 (0, 0)) := setRow_heap _ _ _ _ _ _ hg
  have hcl : cur.toList.length = cur.size := Array.length_toList
  have hlen1 : (insRow1 cur.toList xs (i * 2) 2).length = cur.toList.length := insRow1_length (by omega) (by omega)
  have hdl : (xs.drop (i * 2)).length = (n - i) * 2 := by rw [List.length_drop, hxl]; omega
  have hcp1 : ∀ ty dc sc, (Builtin.copy_ #[24, 24] ty #[.slice (some ⟨g, (i + 1) * 2, none⟩) (n - i) dc, .slice (some ⟨g, i * 2, none⟩) (n + 1 - i) sc]).run Tryz.prog w.drew = .ok (goInt (Nat.min (n + 1 - i) (n - i))) (w.drew.setRow g (insRow1 cur.toList xs (i * 2) 2).toArray) := fun ty dc sc => by
    have h := copyK_run (P := Tryz.prog) w.drew 24 24 ty 62 2 g ((i + 1) * 2) (n - i) dc ⟨g, i * 2, none⟩ (n + 1 - i) sc cur 62 (xs.drop (i * 2)) hT hsz hg (by rw [hdl]; simp only [Nat.min_def]; split <;> omega)
      (fun j v hj => by rw [Addr.add_lit, row_cell (w := w.drew) hg]; exact getq_drop hL hj) (by rw [hdl]; omega) (fun v hv => h1x v (List.mem_of_mem_drop hv))
    have hR : cur.toList.take ((i + 1) * 2) ++ xs.drop (i * 2) ++ cur.toList.drop ((i + 1) * 2 + (xs.drop (i * 2)).length) = insRow1 cur.toList xs (i * 2) 2 := by
      rw [insRow1, hdl, hxl, show (i + 1) * 2 = i * 2 + 2 by omega, show n * 2 - i * 2 = (n - i) * 2 by omega]
    rw [hR] at h
    exact h
  have hcp2 : ∀ ty dc, (Builtin.copy_ #[24, 24] ty #[.slice (some ⟨g, i * 2, none⟩) (n + 1 - i) dc, .slice (some ⟨vb, 0, none⟩) 1 1]).run Tryz.prog (w.drew.setRow g (insRow1 cur.toList xs (i * 2) 2).toArray) = .ok (goInt (Nat.min 1 (n + 1 - i))) ((w.drew.setRow g (insRow1 cur.toList xs (i * 2) 2).toArray).setRow g (insRow2 cur.toList xs ys (i * 2) 2).toArray) := fun ty dc => by
    have h := copyK_run (P := Tryz.prog) (w.drew.setRow g (insRow1 cur.toList xs (i * 2) 2).toArray) 24 24 ty 62 2 g (i * 2) (n + 1 - i) dc ⟨vb, 0, none⟩ 1 1 _ 62 ys hT hsz hr1 (by rw [hyl]; simp only [Nat.min_def]; split <;> omega)
      (fun j v hj => by rw [Addr.add_lit, cell_setRow_other _ _ _ _ (by exact hne), row_cell (w := w.drew) hvb]; simpa using hj) (by rw [List.size_toArray, hlen1]; omega) h1y
    have hR2 : (insRow1 cur.toList xs (i * 2) 2).toArray.toList.take (i * 2) ++ ys ++ (insRow1 cur.toList xs (i * 2) 2).toArray.toList.drop (i * 2 + ys.length) = insRow2 cur.toList xs ys (i * 2) 2 := by
      simp only [insRow2, hyl, Nat.mul_one]
    rw [hR2] at h
    exact h
  have HC1 := Aside0.mk hcp1
  have HC2 := Aside0.mk hcp2
  have hw1 : IntKind.i64.wrap ((i : Int) + 1) = (i : Int) + 1 := by rw [IntKind.wrap_i64]; omega
  have hw2 : IntKind.i64.wrap ((n : Int) + 1) = (n : Int) + 1 := by rw [IntKind.wrap_i64]; omega
  have htn : ((i : Int) + 1).toNat = i + 1 := by omega
  have htm : ((n : Int) + 1).toNat = n + 1 := by omega
  have hin : i ≤ n := by omega
  have hb2 : ¬ (cap = i + 1) := by omega
  have hb4 : ¬ (cap = i) := by omega
  have hb3 : (i : Int) ≤ (n : Int) + 1 := by omega
  have hb5 : (n : Int) + 1 ≤ (cap : Int) := by omega
  have hb6 : (0 : Int) ≤ (i : Int) + 1 := by omega
  clear hcp1 hcp2 hr1 hlen1 hdl hg hvb hL hxl hcs hyl h1x h1y hcap0 hsz hT
  have mixed : Tryz.prog.follows .mixedOrders = true := by kernel_rfl
  go_enter Tryz.func45, Tryz.ntmps45
  go_wp2_with (simp only [hov])
  go_region_law_o (refine Go.Proofs.step_copy_runI rfl _ _ 24 24 rfl (.slice (some ⟨g, (i + 1) * 2, none⟩) (n - i) (cap - (i + 1))) (.slice (some ⟨g, i * 2, none⟩) (n + 1 - i) (cap - i)) (by simp [Act.eval, Act.put]) (by simp [Act.eval, Act.put]) (HC1.out 3 (cap - (i + 1)) (cap - i)) ?_)
  go_wp2_with (simp only [HC2.out])
  go_ret
  exact ⟨rfl, rfl⟩
set_option maxHeartbeats 1000000 in
set_option maxRecDepth 100000 in
theorem insert_ref_grow (base : Nat) (w : World) (g n i vb : Nat) (cur : Array Value) (xs ys : List Value) (hi : i < n) (hbase : base ≤ w.heap.size) (hbig : (n + 1) * 32 ≤ 140737488355328) (hg : w.heap[g]? = some (.cells cur 62 (0, 0)))
    (hxl : xs.length = n * 2) (hL : cur.toList.take xs.length = xs) (hyl : ys.length = 2) (hvb : w.heap[vb]? = some (.cells ys.toArray 62 (0, 0))) (h1x : ∀ v ∈ xs, v.oneCell' = true) (h1y : ∀ v ∈ ys, v.oneCell' = true) :
    Calls Tryz.prog 45 #[.slice (some ⟨g, 0, none⟩) n n, .int .i64 i, .slice (some ⟨vb, 0, none⟩) 1 1] w (InsPost base 62 2 w (.slice (some ⟨g, 0, none⟩) n n) (n + 1) (xs.take (i * 2) ++ ys ++ xs.drop (i * 2))) := by
  have hz2 : ¬ ((i : Int) = (n : Int)) := by omega
  have hz3 : (n : Int) < (n : Int) + 1 := by omega
  have hT : Tryz.prog.underlying 24 = some (.slice 62) := by kernel_rfl
  have hTi : Tryz.prog.underlying 3 = some (.int .i64) := by kernel_rfl
  have hsz : (Tryz.prog.info? 62).map (·.size) = some 2 := by kernel_rfl
  have hinfo : (Tryz.prog.info? 62).map (fun i => (i.zero, i.size, i.bytes)) = some (some (.agg #[.int .i64 0, .slice none 0 0]), 2, 32) := by kernel_rfl
  obtain ⟨i0, hi0, hzz⟩ := Option.map_eq_some_iff.1 hinfo
  simp only [Prod.mk.injEq] at hzz
  obtain ⟨hz0, hzs, hzb⟩ := hzz
  have hgw : g < w.heap.size := (Array.getElem?_eq_some_iff.1 hg).1
  have hvw : vb < w.heap.size := (Array.getElem?_eq_some_iff.1 hvb).1
  have hcl : cur.toList.length = cur.size := Array.length_toList
  have hcn : n * 2 ≤ cur.size := by have := congrArg List.length hL; rw [List.length_take] at this; omega
  have htl : (xs.take (i * 2)).length = i * 2 := by rw [List.length_take]; omega
  have hold : (Builtin.firstCells i0.size i (.slice (some ⟨g, 0, none⟩) i n)).run Tryz.prog w.drew = .ok (xs.take (i * 2)).toArray w.drew := by
    rw [hzs]
    exact run_firstCells_some w.drew 2 i ⟨g, 0, none⟩ i n (xs.take (i * 2)) htl (fun j v hj => by
      rw [Addr.add_lit, row_cell (w := w.drew) hg, Nat.zero_add]
      rw [List.getElem?_take] at hj
      split at hj
      · exact (getq_drop (k := 0) hL (by rw [List.drop_zero]; exact hj)).symm ▸ (by rw [Nat.zero_add])
      · cases hj)
  obtain ⟨G, hG⟩ : ∃ G, G = Go.grownCap w (n + 1) n 62 := ⟨_, rfl⟩
  obtain ⟨ROW, hROW⟩ : ∃ ROW : List Value, ROW = ((xs.take (i * 2)).toArray ++ Builtin.zeroCells ((.agg #[.int .i64 0, .slice none 0 0]) : Value).cells (n + 1 - i) ++ Builtin.zeroCells ((.agg #[.int .i64 0, .slice none 0 0]) : Value).cells (G - (n + 1))).toList := ⟨_, rfl⟩
  have hrz : ∀ ty, (Builtin.append_ #[24, 3] ty #[.slice (some ⟨g, 0, none⟩) i n, .int .i64 ((n : Int) + 1 - (i : Int))]).run Tryz.prog w = .ok (.slice (some ⟨w.heap.size, 0, none⟩) (n + 1) G) (w.drew.alloc (.cells ROW.toArray 62)) := fun ty => by
    have hik : i + (n + 1 - i) = n + 1 := by omega
    have h := Lib.run_append_grow_zeros w 24 3 ty 62 i0 _ .i64 .i64 hT hTi hi0 hz0 (some ⟨g, 0, none⟩) i n (xs.take (i * 2)) hold (n + 1 - i) (by omega) (by omega) (by omega) (by omega) (by rw [hzb]; omega) (by rw [hzb, hik]; exact growslice_fits (by omega) hbig)
    rw [hik] at h
    rw [show (n : Int) + 1 - (i : Int) = ((n + 1 - i : Nat) : Int) by omega, hROW, hG]
    exact h
  have hGn : n + 1 ≤ G := by rw [hG]; exact Go.grownCap_ge w _ _ _
  have hG63 : G ≤ 9223372036854775807 := by
    have := Go.grownCap_le_maxLen w (n + 1) n 62 (by unfold maxLen; omega)
    rw [← hG] at this
    unfold maxLen at this
    omega
  have hRl : ROW.length = G * 2 := by
    rw [hROW, Array.length_toList, Array.size_append, Array.size_append, size_zeroCells, size_zeroCells, List.size_toArray, htl]
    have : ((.agg #[.int .i64 0, .slice none 0 0]) : Value).cells.size = 2 := by kernel_rfl
    rw [this]
    omega
  have hRt : ROW.take (i * 2) = xs.take (i * 2) := by
    rw [hROW, Array.toList_append, Array.toList_append, List.append_assoc]
    have h0 : (xs.take (i * 2)).length = i * 2 := by omega
    show ((xs.take (i * 2)) ++ _).take (i * 2) = _
    rw [List.take_append_of_le_length (by omega), List.take_of_length_le (by omega)]
  have hAl : (insA ROW ys (i * 2)).length = ROW.length := insA_length (by omega)
  have hBl : (insB ROW xs ys (i * 2)).length = ROW.length := insB_length (by omega) (by omega)
  have hBt : (insB ROW xs ys (i * 2)).take ((n + 1) * 2) = xs.take (i * 2) ++ ys ++ xs.drop (i * 2) := by
    have := insB_take (L := ROW) (xs := xs) (ys := ys) (k := i * 2) hRt (by omega) (by omega)
    rw [show xs.length + ys.length = (n + 1) * 2 by omega] at this
    rw [this]
    first | done | rw [show i * 2 = i * 2 by omega]
  have hcpA : ∀ W : World, W.heap[w.heap.size]? = some (.cells ROW.toArray 62 (0, 0)) → W.heap[vb]? = some (.cells ys.toArray 62 (0, 0)) → ∀ ty dc, (Builtin.copy_ #[24, 24] ty #[.slice (some ⟨w.heap.size, i * 2, none⟩) (n + 1 - i) dc, .slice (some ⟨vb, 0, none⟩) 1 1]).run Tryz.prog W = .ok (goInt (Nat.min 1 (n + 1 - i))) (W.setRow w.heap.size (insA ROW ys (i * 2)).toArray) := fun W h1 h2 ty dc => by
    have h := copyK_run (P := Tryz.prog) W 24 24 ty 62 2 w.heap.size (i * 2) (n + 1 - i) dc ⟨vb, 0, none⟩ 1 1 _ 62 ys hT hsz h1 (by rw [hyl]; simp only [Nat.min_def]; split <;> omega)
      (fun j v hj => by rw [Addr.add_lit, row_cell h2]; simpa using hj) (by rw [List.size_toArray]; omega) h1y
    exact h
  have hcpB : ∀ W : World, W.heap[w.heap.size]? = some (.cells (insA ROW ys (i * 2)).toArray 62 (0, 0)) → W.heap[g]? = some (.cells cur 62 (0, 0)) → ∀ ty dc sc, (Builtin.copy_ #[24, 24] ty #[.slice (some ⟨w.heap.size, (i + 1) * 2, none⟩) (n - i) dc, .slice (some ⟨g, i * 2, none⟩) (n - i) sc]).run Tryz.prog W = .ok (goInt (Nat.min (n - i) (n - i))) (W.setRow w.heap.size (insB ROW xs ys (i * 2)).toArray) := fun W h1 h2 ty dc sc => by
    have hdl : (xs.drop (i * 2)).length = (n - i) * 2 := by rw [List.length_drop, hxl]; omega
    have h := copyK_run (P := Tryz.prog) W 24 24 ty 62 2 w.heap.size ((i + 1) * 2) (n - i) dc ⟨g, i * 2, none⟩ (n - i) sc _ 62 (xs.drop (i * 2)) hT hsz h1 (by rw [hdl]; simp only [Nat.min_def]; split <;> omega)
      (fun j v hj => by rw [Addr.add_lit, row_cell h2]; exact getq_drop hL hj) (by rw [List.size_toArray, hAl, hdl]; omega) (fun v hv => h1x v (List.mem_of_mem_drop hv))
    have hR : (insA ROW ys (i * 2)).toArray.toList.take ((i + 1) * 2) ++ xs.drop (i * 2) ++ (insA ROW ys (i * 2)).toArray.toList.drop ((i + 1) * 2 + (xs.drop (i * 2)).length) = insB ROW xs ys (i * 2) := by
      rw [insB, List.length_drop, show (i + 1) * 2 = i * 2 + ys.length by omega]
    rw [hR] at h
    exact h
  have hA1 : ∀ W : World, W.heap = (w.alloc (.cells ROW.toArray 62)).heap → W.heap[w.heap.size]? = some (.cells ROW.toArray 62 (0, 0)) ∧ W.heap[vb]? = some (.cells ys.toArray 62 (0, 0)) ∧ W.heap[g]? = some (.cells cur 62 (0, 0)) := fun W hW => by
    rw [hW]
    exact ⟨heap_alloc_new w _, (heap_alloc_old w _ hvw).trans hvb, (heap_alloc_old w _ hgw).trans hg⟩
  have hgN : g ≠ w.heap.size := by omega
  have RA : ∀ W : World, W.heap = (w.alloc (.cells ROW.toArray 62)).heap → ∀ ty dc, (Builtin.copy_ #[24, 24] ty #[.slice (some ⟨w.heap.size, i * 2, none⟩) (n + 1 - i) dc, .slice (some ⟨vb, 0, none⟩) 1 1]).run Tryz.prog W = .ok (goInt (Nat.min 1 (n + 1 - i))) (W.setRow w.heap.size (insA ROW ys (i * 2)).toArray) := fun W hW ty dc => hcpA W (hA1 W hW).1 (hA1 W hW).2.1 ty dc
  have RB : ∀ W : World, W.heap = (w.alloc (.cells ROW.toArray 62)).heap → ∀ W2 : World, W2.heap = (W.setRow w.heap.size (insA ROW ys (i * 2)).toArray).heap → ∀ ty dc sc, (Builtin.copy_ #[24, 24] ty #[.slice (some ⟨w.heap.size, (i + 1) * 2, none⟩) (n - i) dc, .slice (some ⟨g, i * 2, none⟩) (n - i) sc]).run Tryz.prog W2 = .ok (goInt (Nat.min (n - i) (n - i))) (W2.setRow w.heap.size (insB ROW xs ys (i * 2)).toArray) := fun W hW W2 hW2 ty dc sc =>
    hcpB W2 (by rw [hW2]; exact setRow_heap _ _ _ _ _ _ (hA1 W hW).1) (by rw [hW2, setRow_other _ _ _ _ hgN]; exact (hA1 W hW).2.2) ty dc sc
  have HRZ := Aside0.mk hrz
  have HRA := Aside0.mk RA
  have HRB := Aside0.mk RB
  have FIN : Aside0 (∀ W : World, W.heap = (w.alloc (.cells ROW.toArray 62)).heap → w.grownBy W (some g) → ∀ W2 : World, W2.heap = (W.setRow w.heap.size (insA ROW ys (i * 2)).toArray).heap → w.grownBy W2 (some g) → InsPost base 62 2 w (.slice (some ⟨g, 0, none⟩) n n) (n + 1) (xs.take (i * 2) ++ ys ++ xs.drop (i * 2)) (.returned (.slice (some ⟨w.heap.size, 0, none⟩) (n + 1) G)) (W2.setRow w.heap.size (insB ROW xs ys (i * 2)).toArray)) := ⟨fun W hW hgW W2 hW2 hg2 =>
    ⟨_, rfl, Ins.own hbase (setRow_heap _ _ _ _ _ _ (by rw [hW2]; exact setRow_heap _ _ _ _ _ _ (hA1 W hW).1)) (by unfold maxLen; omega) hGn (by rw [hBl, hRl]) hBt, grown_setRow hg2 _ _ (.inr (Nat.le_refl _)), .inr ⟨_, rfl, Nat.le_refl _⟩⟩⟩
  have hw1 : IntKind.i64.wrap ((i : Int) + 1) = (i : Int) + 1 := by rw [IntKind.wrap_i64]; omega
  have hw2 : IntKind.i64.wrap ((n : Int) + 1) = (n : Int) + 1 := by rw [IntKind.wrap_i64]; omega
  have hw3 : IntKind.i64.wrap ((n : Int) + 1 - i) = (n : Int) + 1 - i := by rw [IntKind.wrap_i64]; omega
  have htn : ((i : Int) + 1).toNat = i + 1 := by omega
  have hin : i ≤ n := by omega
  have hb2 : ¬ (G = i + 1) := by omega
  have hb4 : ¬ (G = i) := by omega
  have hb5 : ¬ (n = i) := by omega
  have hb3 : (i : Int) ≤ (n : Int) + 1 := by omega
  have hb6 : (0 : Int) ≤ (i : Int) + 1 := by omega
  clear hrz RA RB hcpA hcpB hA1 hg hvb hL hxl hyl h1x h1y hsz hT hTi hinfo hi0 hz0 hzs hzb hold hROW hRl hRt hAl hBl hBt htl hcn hcl hG
  have mixed : Tryz.prog.follows .mixedOrders = true := by kernel_rfl
  go_enter Tryz.func45, Tryz.ntmps45
  go_wp2_with (first
    | (at_builtin; refine Go.Lib.wpList_append_run _ rfl _ _ _ _ rfl _ _ rfl rfl _ _ (HRZ.out _) ?_)
    | (simp only [HRA.out (w.drew.alloc (.cells ROW.toArray 62)) rfl, HRA.out ((w.alloc (.cells ROW.toArray 62)).drew) rfl]))
  go_region_law_o (refine Go.Proofs.step_copy_runI rfl _ _ 24 24 rfl (.slice (some ⟨w.heap.size, (i + 1) * 2, none⟩) (n - i) (G - (i + 1))) (.slice (some ⟨g, i * 2, none⟩) (n - i) (n - i)) (by simp [Act.eval, Act.put]) (by simp [Act.eval, Act.put]) (HRB.out (w.alloc (.cells ROW.toArray 62)).drew rfl (((w.alloc (.cells ROW.toArray 62)).drew.setRow w.heap.size (insA ROW ys (i * 2)).toArray).drew) rfl 3 (G - (i + 1)) (n - i)) ?_)
  go_wp2
  go_ret
  exact FIN.out (w.alloc (.cells ROW.toArray 62)).drew rfl (grown_drew (grown_alloc (World.grownBy.refl w _) _)) (((w.alloc (.cells ROW.toArray 62)).drew.setRow w.heap.size (insA ROW ys (i * 2)).toArray).drew) rfl (grown_drew (grown_setRow (grown_drew (grown_alloc (World.grownBy.refl w _) _)) _ _ (.inr (Nat.le_refl _))))

set_option maxHeartbeats 1000000 in
set_option maxRecDepth 100000 in
theorem insert_ref_end (base : Nat) (w : World) (n vb : Nat) (v : Value) (xs ys : List Value) (hbase : base ≤ w.heap.size) (hbig : (n + 1) * 32 ≤ 140737488355328) (hown : w.ownsRow base 62 2 v n xs) (hyl : ys.length = 2) (hvb : w.heap[vb]? = some (.cells ys.toArray 62 (0, 0))) (h1y : ∀ v ∈ ys, v.oneCell' = true) :
    Calls Tryz.prog 45 #[v, .int .i64 n, .slice (some ⟨vb, 0, none⟩) 1 1] w (InsPost base 62 2 w v (n + 1) (xs ++ ys)) := by
  have hT : Tryz.prog.underlying 24 = some (.slice 62) := by kernel_rfl
  have hinfo : (Tryz.prog.info? 62).map (fun i => (i.zero, i.size, i.bytes)) = some (some (.agg #[.int .i64 0, .slice none 0 0]), 2, 32) := by kernel_rfl
  obtain ⟨i0, hi0, hzz⟩ := Option.map_eq_some_iff.1 hinfo
  simp only [Prod.mk.injEq] at hzz
  obtain ⟨hz0, hzs, hzb⟩ := hzz
  have hln : n + 1 ≤ maxLen := by unfold maxLen; omega
  have HO := Aside0.mk hown
  rcases hown.2 with ⟨rfl, rfl⟩ | ⟨g, cap, cur, rfl, _, _, hnc, hcm, _⟩
  · clear hown
    go_enter Tryz.func45, Tryz.ntmps45
    go_wp2_with (at_builtin; refine wpList_append_own_at w rfl _ _ 24 rfl base 62 i0 _ 2 32 hT hi0 hz0 hzs hzb (by kernel_rfl) (by omega) _ _ xs rfl HO.out ⟨vb, 0, none⟩ 1 1 ys rfl (by omega) (fun j u hj => by rw [Addr.add_lit, row_cell hvb]; simpa using hj) h1y hln hbig hbase ?_; intro v1 w1 k1 k2 k3 k4)
    go_ret
    exact ⟨_, rfl, k1, k2, k4.elim .inl (fun h => .inr ⟨_, h, Nat.le_refl _⟩)⟩
  · unfold maxLen at hcm
    clear hown
    go_enter Tryz.func45, Tryz.ntmps45
    go_wp2_with (at_builtin; refine wpList_append_own_at w rfl _ _ 24 rfl base 62 i0 _ 2 32 hT hi0 hz0 hzs hzb (by kernel_rfl) (by omega) _ _ xs rfl HO.out ⟨vb, 0, none⟩ 1 1 ys rfl (by omega) (fun j u hj => by rw [Addr.add_lit, row_cell hvb]; simpa using hj) h1y hln hbig hbase ?_; intro v1 w1 k1 k2 k3 k4)
    all_goals go_ret
    all_goals exact ⟨_, rfl, k1, k2, k4.elim .inl (fun h => .inr ⟨_, h, Nat.le_refl _⟩)⟩
theorem insert_ref_calls (base : Nat) (w : World) (n i vb : Nat) (v : Value) (xs ys : List Value) (hi : i ≤ n) (hbase : base ≤ w.heap.size) (hbig : (n + 1) * 32 ≤ 140737488355328) (hown : w.ownsRow base 62 2 v n xs) (hyl : ys.length = 2) (hvb : w.heap[vb]? = some (.cells ys.toArray 62 (0, 0))) (hne : some vb ≠ v.ownBlock) (h1x : ∀ v ∈ xs, v.oneCell' = true) (h1y : ∀ v ∈ ys, v.oneCell' = true) :
    Calls Tryz.prog 45 #[v, .int .i64 i, .slice (some ⟨vb, 0, none⟩) 1 1] w (InsPost base 62 2 w v (n + 1) (xs.take (i * 2) ++ ys ++ xs.drop (i * 2))) := by
  have hxl : xs.length = n * 2 := hown.1
  rcases Nat.lt_or_ge i n with hlt | hge
  · rcases hown.2 with ⟨rfl, rfl⟩ | ⟨g, cap, cur, rfl, hbg, hg, hnc, hcm, hcs, ht⟩
    · omega
    · have hL : cur.toList.take xs.length = xs := by rw [hxl]; exact ht
      have hm : cap ≤ 9223372036854775807 := by unfold maxLen at hcm; exact hcm
      by_cases hcap : n + 1 ≤ cap
      · have hcl : cur.toList.length = cur.size := Array.length_toList
        refine (insert_ref_shift w g n cap i vb cur xs ys hlt hcap hm hg hcs hxl hL hyl hvb (fun he => hne (by rw [he]; rfl)) h1x h1y).mono ?_
        rintro e w1 ⟨rfl, rfl⟩
        have h2 := insRow2_take (L := cur.toList) (xs := xs) (ys := ys) (k := i * 2) (sz := 2) hL (by omega) (by omega) hyl
        have h3 := insRow2_length (L := cur.toList) (xs := xs) (ys := ys) (k := i * 2) (sz := 2) (by omega) (by omega) hyl
        refine ⟨_, rfl, Ins.own hbg (setRow_heap _ _ _ _ _ _ (setRow_heap _ _ _ _ _ _ hg)) hcm hcap (by omega) ?_, grown_setRow (grown_setRow (grown_drew (World.grownBy.refl w _)) _ _ (.inl rfl)) _ _ (.inl rfl), .inl rfl⟩
        rw [show (n + 1) * 2 = xs.length + 2 by omega, h2]
        first | done | rw [show i * 2 = i * 2 by omega]
      · obtain rfl : cap = n := by omega
        exact insert_ref_grow base w g cap i vb cur xs ys hlt hbase hbig hg hxl hL hyl hvb h1x h1y
  · obtain rfl : i = n := by omega
    have h := insert_ref_end base w i vb v xs ys hbase hbig hown hyl hvb h1y
    rw [List.take_of_length_le (by omega), List.drop_eq_nil_of_le (by omega), List.append_nil]
    exact h

end Go.Proofs.YtgmdgaioiifgnaaGreat
