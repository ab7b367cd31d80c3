/- The kind of api.Known; record.clone. -/
import Derived.Test.YtgmdgaioiifgnaaGreatRec
import Derived.Test.YtgmdgaioiifgnaaGreatIns
set_option linter.unusedVariables false
set_option linter.unusedSimpArgs false
namespace Go.Proofs.YtgmdgaioiifgnaaGreat
open Go.RowKit Go.Proofs.YtgmdgaioiifgnaaGreatW.PrintWords
structure Kn where
  refs : List Rf
  lasts : List Int
  has : List Bool
  deriving DecidableEq
/-- What is known, as a value that is read. -/
def KnV (w : World) (v : Value) (k : Kn) : Prop := ∃ A0 c0 A1 c1 A2 c2, v = .agg #[.slice A0 k.refs.length c0, .slice A1 k.lasts.length c1, .slice A2 k.has.length c2] ∧ k.refs.length ≤ c0 ∧ k.lasts.length ≤ c1 ∧ k.has.length ≤ c2 ∧ kRef.C w A0 k.refs.length k.refs ∧ (Kd.int .i64).C w A1 k.lasts.length k.lasts ∧ Kd.bool.C w A2 k.has.length k.has
theorem KnV.below {w w1 : World} {v : Value} {k : Kn} (h : KnV w v k) (hb : Below w.heap.size w w1) : KnV w1 v k := by
  obtain ⟨A0, c0, A1, c1, A2, c2, e, l0, l1, l2, h0, h1, h2⟩ := h
  exact ⟨A0, c0, A1, c1, A2, c2, e, l0, l1, l2, Kd.C_below h0 hb, Kd.C_below h1 hb, Kd.C_below h2 hb⟩
/-- What is known, in rows of one's own. -/
structure KnO (w0 w : World) (r l h : Value) (k : Kn) : Prop where
  refs : Row kRef 62 w0 w r k.refs
  lasts : Row (Kd.int .i64) 3 w0 w l k.lasts
  has : Row Kd.bool 4 w0 w h k.has
theorem KnO.reads {w0 w : World} {r l h : Value} {k : Kn} (o : KnO w0 w r l h k) : KnV w (.agg #[r, l, h]) k := by
  obtain ⟨A0, c0, rfl, l0, h0⟩ := o.refs.reads
  obtain ⟨A1, c1, rfl, l1, h1⟩ := o.lasts.reads
  obtain ⟨A2, c2, rfl, l2, h2⟩ := o.has.reads
  exact ⟨A0, c0, A1, c1, A2, c2, rfl, l0, l1, l2, h0, h1, h2⟩
theorem KnO.below {w0 w w1 : World} {r l h : Value} {k : Kn} (o : KnO w0 w r l h k) (hb : Below w.heap.size w w1) : KnO w0 w1 r l h k := ⟨o.refs.below hb, o.lasts.below hb, o.has.below hb⟩
theorem kRef_E : kRef.E = [64] := rfl
/-- A store into a block of another type. -/
theorem Row.set {α : Type} {d : Kd α} {e : Nat} {w0 w : World} {v : Value} {xs : List α} (h : Row d e w0 w v xs) {g t : Nat} {cells : Array Value} (hb : w.heap[g]? = some (.cells cells t (0, 0))) (ht : ∀ q, q ∈ e :: d.E → q ≠ t) (j : Nat) (u : Value) : Row d e w0 (w.setCell ⟨g, j, none⟩ u) v xs := Kd.R_set h hb ht j u
theorem cells_of_below {w w1 : World} (h : Below w.heap.size w w1) : ∀ b j, b < w.heap.size → w1.cell? ⟨b, j, none⟩ = w.cell? ⟨b, j, none⟩ := fun b j hb => World.cell?_of_block (h.block b hb)
theorem frozen_of_below {w w1 : World} (h : Below w.heap.size w w1) : ∀ b j, b < w.heap.size → w1.frozen? ⟨b, j, none⟩ = w.frozen? ⟨b, j, none⟩ := fun b j hb => World.frozen?_of_block (h.block b hb)
theorem size_of_below {w w1 : World} (h : Below w.heap.size w w1) : ∀ n, n < w.heap.size → n < w1.heap.size := fun n hn => Nat.lt_of_lt_of_le hn h.size
theorem keep2 {W U : World} {a b : Addr} {u v : Value} (h1 : W.cell? a = some u) (h2 : W.cell? b = some v) (hb : Below W.heap.size W U) : U.cell? a = some u ∧ U.cell? b = some v := ⟨pw_cell_below hb h1, pw_cell_below hb h2⟩
theorem Row.typed {α : Type} {d : Kd α} {e : Nat} {w0 w w1 : World} {v : Value} {xs : List α} (h : Row d e w0 w v xs) {g t : Nat} {cells : Array Value} (hb : w.heap[g]? = some (.cells cells t (0, 0))) (ht : ∀ q, q ∈ e :: d.E → q ≠ t) (hg : w.grownBy w1 (some g)) : Row d e w0 w1 v xs :=
  Kd.R_mono (Kd.R_grown (Kd.R_types h hb ht) hg (fun k hk he => hk.2 (Option.some.inj he))) (fun _ hk => hk.1)
theorem set3 {w : World} {g : Nat} {a b c x y z : Value} {T : TypeId} (h : w.heap[g]? = some (.cells #[a, b, c] T (0, 0))) : ((w.setCell ⟨g, 0, none⟩ x).setCell ⟨g, 1, none⟩ y).setCell ⟨g, 2, none⟩ z = w.setRow g #[x, y, z] := by
  rw [setCell_eq_setRow w g 0 _ T (0, 0) x h, setCell_eq_setRow _ g 1 _ T (0, 0) y (setRow_heap _ _ _ _ _ _ h), setRow_setRow, setCell_eq_setRow _ g 2 _ T (0, 0) z (setRow_heap _ _ _ _ _ _ h), setRow_setRow]
  rfl
/-- What stands behind the first statement of record.clone. -/
structure CMid (w U : World) (N : Nat) (k : Kn) (lv hv : Value) (A0 : Option Addr) (c0 : Nat) : Prop where
  big : w.heap.size + 1 < N
  res : U.heap[w.heap.size + 1]? = some (.cells #[.slice none 0 0, .slice none 0 0, .slice none 0 0] 28 (0, 0))
  cells : U.heap[N]? = some (.cells #[.slice none 0 0, lv, hv] 28 (0, 0))
  below : Below w.heap.size w U
  lasts : Row (Kd.int .i64) 3 w U lv k.lasts
  has : Row Kd.bool 4 w U hv k.has
  refs : U.cell? ⟨w.heap.size, 0, none⟩ = some (.slice A0 k.refs.length c0)
theorem noKn_int : ∀ q, q ∈ 3 :: (Kd.int .i64).E → q ≠ 28 := by decide
theorem noKn_bool : ∀ q, q ∈ 4 :: Kd.bool.E → q ≠ 28 := by decide
theorem noKn_ref : ∀ q, q ∈ 62 :: kRef.E → q ≠ 28 := by decide
/-- The loop of record.clone. -/
structure CLoop (w wr : World) (N : Nat) (k : Kn) (lv hv : Value) (A : Option Addr) (c j : Nat) : Prop where
  big : w.heap.size + 1 < N
  res : wr.heap[w.heap.size + 1]? = some (.cells #[.slice none 0 0, .slice none 0 0, .slice none 0 0] 28 (0, 0))
  cells : wr.heap[N]? = some (.cells #[.slice A j c, lv, hv] 28 (0, 0))
  refs : Row kRef 62 w wr (.slice A j c) (k.refs.take j)
  lasts : Row (Kd.int .i64) 3 w wr lv k.lasts
  has : Row Kd.bool 4 w wr hv k.has
  below : Below w.heap.size w wr
theorem CLoop.alloc {w wr : World} {N : Nat} {k : Kn} {lv hv : Value} {A : Option Addr} {c j : Nat} (h : CLoop w wr N k lv hv A c j) (o : Obj) : CLoop w (wr.alloc o) N k lv hv A c j :=
  ⟨h.big, (heap_alloc_old _ _ (Array.getElem?_eq_some_iff.1 h.res).1).trans h.res, (heap_alloc_old _ _ (Array.getElem?_eq_some_iff.1 h.cells).1).trans h.cells, h.refs.below (below_alloc (Below.refl _ _) _), h.lasts.below (below_alloc (Below.refl _ _) _), h.has.below (below_alloc (Below.refl _ _) _), below_alloc h.below _⟩
theorem cell_head {w : World} {g : Nat} {x y z : Value} {T : TypeId} (h : w.heap[g]? = some (.cells #[x, y, z] T (0, 0))) : w.cell? ⟨g, 0, none⟩ = some x := by rw [row_cell h]; rfl
theorem cell_mid {w : World} {g : Nat} {x y z : Value} {T : TypeId} (h : w.heap[g]? = some (.cells #[x, y, z] T (0, 0))) : w.cell? ⟨g, 1, none⟩ = some y := by rw [row_cell h]; rfl
theorem cell_last {w : World} {g : Nat} {x y z : Value} {T : TypeId} (h : w.heap[g]? = some (.cells #[x, y, z] T (0, 0))) : w.cell? ⟨g, 2, none⟩ = some z := by rw [row_cell h]; rfl
theorem frozen_head {w : World} {g : Nat} {x y z : Value} {T : TypeId} (h : w.heap[g]? = some (.cells #[x, y, z] T (0, 0))) : w.frozen? ⟨g, 0, none⟩ = false := by simp [World.frozen?, h]
theorem CLoop.next {w W w4 w5 : World} {N : Nat} {k : Kn} {lv hv : Value} {A A5 : Option Addr} {c c5 j : Nat} (h : CLoop w W N k lv hv A c j) (hb4 : Below W.heap.size W w4) (k1 : Row kRef 62 w w5 (.slice A5 (j + 1) c5) (k.refs.take (j + 1))) (k2 : Below w.heap.size w w5) (k3 : w4.grownBy w5 (Value.slice A j c).ownBlock) : CLoop w (w5.setCell ⟨N, 0, none⟩ (.slice A5 (j + 1) c5)) N k lv hv A5 c5 (j + 1) := by
  have r4 := h.refs.below hb4
  have hlt := (Array.getElem?_eq_some_iff.1 h.cells).1
  have c4 : w4.heap[N]? = _ := (hb4.block N hlt).trans h.cells
  have q5 : w5.heap[N]? = _ := (k3.block N (Nat.lt_of_lt_of_le hlt hb4.size) (Kd.R_ne r4 c4 (by decide))).trans c4
  obtain ⟨inner, ho⟩ := Kd.R_own r4
  rw [setCell_eq_setRow w5 N 0 _ _ _ _ q5]
  show CLoop w (w5.setRow N #[.slice A5 (j + 1) c5, lv, hv]) N k lv hv A5 c5 (j + 1)
  have hg : w5.grownBy (w5.setRow N #[.slice A5 (j + 1) c5, lv, hv]) (some N) := grown_setRow (World.grownBy.refl w5 (some N)) N _ (.inl rfl)
  have hltR := (Array.getElem?_eq_some_iff.1 h.res).1
  have r4' : w4.heap[w.heap.size + 1]? = _ := (hb4.block _ hltR).trans h.res
  have r5 : w5.heap[w.heap.size + 1]? = _ := (k3.block _ (Nat.lt_of_lt_of_le hltR hb4.size) (Kd.R_ne r4 r4' (by decide))).trans r4'
  have hbig := h.big
  exact ⟨h.big, (setRow_other _ _ _ _ (by omega)).trans r5, setRow_heap _ _ _ _ _ _ q5, Row.typed k1 q5 noKn_ref hg, Row.typed (Row.apart (h.lasts.below hb4) ho (by decide) k3) q5 noKn_int hg, Row.typed (Row.apart (h.has.below hb4) ho (by decide) k3) q5 noKn_bool hg, k2.grown hg k2.size (fun i hi => by injection hi with hi; omega)⟩
theorem CLoop.after {w W w4 w5 : World} {N : Nat} {k : Kn} {lv hv : Value} {A : Option Addr} {c j : Nat} (h : CLoop w W N k lv hv A c j) (hb4 : Below W.heap.size W w4) (k3 : w4.grownBy w5 (Value.slice A j c).ownBlock) : w5.cell? ⟨N, 0, none⟩ = some (.slice A j c) ∧ w5.frozen? ⟨N, 0, none⟩ = false := by
  have r4 := h.refs.below hb4
  have hlt := (Array.getElem?_eq_some_iff.1 h.cells).1
  have c4 : w4.heap[N]? = _ := (hb4.block N hlt).trans h.cells
  have q5 : w5.heap[N]? = _ := (k3.block N (Nat.lt_of_lt_of_le hlt hb4.size) (Kd.R_ne r4 c4 (by decide))).trans c4
  exact ⟨cell_head q5, frozen_head q5⟩
theorem clone_okp {w W w4 : World} {v : Value} {ls : List Lab} (h : Row kLab 64 W w4 v ls) (hs : w.heap.size ≤ W.heap.size) : kLab.R 64 w4 w.heap.size (fun q => W.heap.size ≤ q) v ls := Kd.R_lower (Kd.R_mono (Kd.R_bound h) (fun _ hk => hk.2.1)) hs
theorem clone_far {w W : World} {v : Value} {xs : List Rf} (h : Row kRef 62 w W v xs) (q : Nat) (hq : W.heap.size ≤ q) : some q ≠ v.ownBlock := fun he => by have := Kd.R_lt h q he.symm; omega
def RfOk (x : Rf) : Prop := x.ls.length ≤ 1000000 ∧ SmallL x.ls
def KnOk (k : Kn) : Prop := k.lasts.length = k.refs.length ∧ k.has.length = k.refs.length ∧ k.refs.length ≤ 1000 ∧ ∀ x ∈ k.refs, RfOk x
set_option maxHeartbeats 2000000 in
set_option maxRecDepth 100000 in
theorem clone_calls (v : Value) (k : Kn) (w : World) (hv : KnV w v k) (hk : KnOk k) : Calls Tryz.prog 17 #[v] w fun e w' => ∃ r l h, e = .returned (.agg #[r, l, h]) ∧ KnO w w' r l h k ∧ Below w.heap.size w w' := by
  obtain ⟨A0, c0, A1, c1, A2, c2, rfl, l0, l1, l2, h0, h1, h2⟩ := hv
  have HK := Aside0.mk hk
  have H0 := Aside0.mk h0
  have H1 := Aside0.mk h1
  have H2 := Aside0.mk h2
  have HB := Aside0.mk (Below.refl w.heap.size w)
  have HZ := Aside0.mk (show k.lasts.length * 8 ≤ 140737488355328 ∧ k.has.length * 1 ≤ 140737488355328 by obtain ⟨q1, q2, q3, _⟩ := hk; omega)
  clear h0 h1 h2 hk
  go_enter Tryz.func17, Tryz.ntmps17
  go_wp2
  have e1 : ((w.alloc (.cells #[.slice A0 k.refs.length c0, .slice A1 k.lasts.length c1, .slice A2 k.has.length c2] 28)).alloc (.cells #[.slice none 0 0, .slice none 0 0, .slice none 0 0] 28)).cell? ⟨w.heap.size, 0, none⟩ = some (.slice A0 k.refs.length c0) := by simp
  have e2 : ((w.alloc (.cells #[.slice A0 k.refs.length c0, .slice A1 k.lasts.length c1, .slice A2 k.has.length c2] 28)).alloc (.cells #[.slice none 0 0, .slice none 0 0, .slice none 0 0] 28)).cell? ⟨w.heap.size, 1, none⟩ = some (.slice A1 k.lasts.length c1) := by simp
  have e3 : ((w.alloc (.cells #[.slice A0 k.refs.length c0, .slice A1 k.lasts.length c1, .slice A2 k.has.length c2] 28)).alloc (.cells #[.slice none 0 0, .slice none 0 0, .slice none 0 0] 28)).cell? ⟨w.heap.size, 2, none⟩ = some (.slice A2 k.has.length c2) := by simp
  have e4 : ((w.alloc (.cells #[.slice A0 k.refs.length c0, .slice A1 k.lasts.length c1, .slice A2 k.has.length c2] 28)).alloc (.cells #[.slice none 0 0, .slice none 0 0, .slice none 0 0] 28)).heap[w.heap.size + 1]? = some (.cells #[.slice none 0 0, .slice none 0 0, .slice none 0 0] 28 (0, 0)) := heap_alloc2_new w _ _
  have HW := Aside0.mk (below_alloc (below_alloc (Below.refl w.heap.size w) (.cells #[.slice A0 k.refs.length c0, .slice A1 k.lasts.length c1, .slice A2 k.has.length c2] 28)) (.cells #[.slice none 0 0, .slice none 0 0, .slice none 0 0] 28))
  generalize (w.alloc (.cells #[.slice A0 k.refs.length c0, .slice A1 k.lasts.length c1, .slice A2 k.has.length c2] 28)).alloc (.cells #[.slice none 0 0, .slice none 0 0, .slice none 0 0] 28) = W at *
  have hw1 : w.heap.size + 1 < W.heap.size := (Array.getElem?_eq_some_iff.1 e4).1
  have hw0 : w.heap.size < W.heap.size := Nat.lt_of_succ_lt hw1
  have E4 := Aside0.mk e4
  clear e4
  rename_i Q' K hK
  have rest : ∀ (N : Nat) (U : World) (Al Ah : Option Addr) (cl ch : Nat), CMid w U N k (.slice Al k.lasts.length cl) (.slice Ah k.has.length ch) A0 c0 → Exit.then K Q' .normal { tmps := #[.agg #[.slice A0 k.refs.length c0, .slice A1 k.lasts.length c1, .slice A2 k.has.length c2], .pointer (some ⟨w.heap.size, 0, none⟩), .pointer (some ⟨w.heap.size + 1, 0, none⟩), .pointer (some ⟨N, 0, none⟩), undef, undef, .pointer (some ⟨w.heap.size, 1, none⟩), .slice A1 k.lasts.length c1, .slice Al k.lasts.length cl, .pointer (some ⟨w.heap.size, 2, none⟩), .slice A2 k.has.length c2, .slice Ah k.has.length ch, .agg #[.slice none 0 0, .slice Al k.lasts.length cl, .slice Ah k.has.length ch], undef, undef, undef, undef, undef, undef, undef, undef, undef, undef, undef, undef, undef, undef, undef, undef, undef, undef, undef, undef], defers := [] } U := by
    intro N U Al Ah cl ch mid
    clear e1 e2 e3 HW hw1 hw0 E4 W
    obtain ⟨big, res, cells, below, lasts, has, refs⟩ := mid
    have HR := Aside0.mk res
    clear res
    have HL := Aside0.mk lasts
    have HH := Aside0.mk has
    have HU := Aside0.mk below
    clear lasts has below
    refine hK _ _ ?_
    clear hK
    go_wp2
    have hkl : (k.refs.length : Int) ≤ 1000 := by have := HK.out.2.2.1; omega
    go_loopw [16] (fun i wr => ∃ (j : Nat) (A : Option Addr) (c : Nat), j ≤ k.refs.length ∧ i = .int .i64 j ∧ Aside0 (CLoop w wr N k (.slice Al k.lasts.length cl) (.slice Ah k.has.length ch) A c j)) (fun i _ => k.refs.length - (intOf i).toNat)
    case atStart => exact ⟨0, none, 0, by omega, rfl, ⟨big, HR.out, cells, Row.nil _ _ _ _, HL.out, HH.out, HU.out⟩⟩
    case round =>
      obtain ⟨j, A, c, hj, rfl, HJ⟩ := hrel
      clear cells refs HL HH HU HR
      by_cases hlt : j < k.refs.length
      · have hC2 := Kd.C_below H0.out HJ.out.below
        obtain ⟨ad, A', c', rfl, h0, h1, h2, h3⟩ := at_ref hC2 j hlt
        have h3 := Aside0.mk h3
        clear hC2
        have hltb : (j : Int) < (k.refs.length : Int) := by omega
        go_wp2_with fail
        have g0 : (wr.alloc (.cells #[.int .i64 (rdRef k.refs j).ref, .slice A' (rdRef k.refs j).ls.length c'] 62)).cell? ⟨wr.heap.size, 0, none⟩ = some (.int .i64 (rdRef k.refs j).ref) := by simp
        have g1 : (wr.alloc (.cells #[.int .i64 (rdRef k.refs j).ref, .slice A' (rdRef k.refs j).ls.length c'] 62)).cell? ⟨wr.heap.size, 1, none⟩ = some (.slice A' (rdRef k.refs j).ls.length c') := by simp
        have HJ2 := HJ.out.alloc (.cells #[.int .i64 (rdRef k.refs j).ref, .slice A' (rdRef k.refs j).ls.length c'] 62)
        have g2 := cell_head HJ2.cells
        have g3 := frozen_head HJ2.cells
        have h4 := Aside0.mk (Kd.C_below h3.out (below_alloc (Below.refl wr.heap.size wr) (.cells #[.int .i64 (rdRef k.refs j).ref, .slice A' (rdRef k.refs j).ls.length c'] 62)))
        have hM : wr.heap.size < (wr.alloc (.cells #[.int .i64 (rdRef k.refs j).ref, .slice A' (rdRef k.refs j).ls.length c'] 62)).heap.size := by simp
        have hNW := (Array.getElem?_eq_some_iff.1 HJ2.cells).1
        have hsz := Aside0.mk (show (rdRef k.refs j).ls.length * 32 ≤ 140737488355328 by have := (HK.out.2.2.2 _ (List.getElem_mem hlt)).1; rw [← rdRef_eq hlt] at this; omega)
        have HT := Aside0.mk (show k.refs.take (j + 1) = k.refs.take j ++ [⟨(rdRef k.refs j).ref, (rdRef k.refs j).ls⟩] by rw [List.take_succ_eq_append_getElem hlt, ← rdRef_eq hlt])
        have HL1 := Aside0.mk (show (k.refs.take j ++ [(⟨(rdRef k.refs j).ref, (rdRef k.refs j).ls⟩ : Rf)]).length = j + 1 by simp; omega)
        have HTT := Aside0.mk (show Tryz.prog.underlying 24 = some (.slice 62) by kernel_rfl)
        have HBG := Aside0.mk (show ((k.refs.take j).length + 1) * 32 ≤ 140737488355328 by have := HK.out.2.2.1; rw [List.length_take]; omega)
        have HJ2 := Aside0.mk HJ2
        generalize wr.heap.size = M at *
        generalize wr.alloc (.cells #[.int .i64 (rdRef k.refs j).ref, .slice A' (rdRef k.refs j).ls.length c'] 62) = W at *
        rename_i Q2 K2 hK2 _
        have rest2 : ∀ (Ax A5 : Option Addr) (cx c5 M4 : Nat) (W6 : World), Aside0 (CLoop w W6 N k (.slice Al k.lasts.length cl) (.slice Ah k.has.length ch) A5 c5 (j + 1)) → Exit.inBlock 1 (Exit.then K2 Q2) .normal { tmps := #[.agg #[.slice (some ad) k.refs.length c0, .slice A1 k.lasts.length c1, .slice A2 k.has.length c2], .pointer (some ⟨w.heap.size, 0, none⟩), .pointer (some ⟨w.heap.size + 1, 0, none⟩), .pointer (some ⟨N, 0, none⟩), undef, .pointer (some ⟨M, 0, none⟩), .pointer (some ⟨w.heap.size, 1, none⟩), .slice A1 k.lasts.length c1, .slice Al k.lasts.length cl, .pointer (some ⟨w.heap.size, 2, none⟩), .slice A2 k.has.length c2, .slice Ah k.has.length ch, .agg #[.slice none 0 0, .slice Al k.lasts.length cl, .slice Ah k.has.length ch], .pointer (some ⟨w.heap.size, 0, none⟩), .slice (some ad) k.refs.length c0, .int .i64 k.refs.length, .int .i64 j, .bool true, .pointer (some (ad.add (j * 2))), .agg #[.int .i64 (rdRef k.refs j).ref, .slice A' (rdRef k.refs j).ls.length c'], .pointer (some ⟨N, 0, none⟩), .slice A j c, .pointer (some ⟨M, 0, none⟩), .int .i64 (rdRef k.refs j).ref, .pointer (some ⟨M, 1, none⟩), .slice A' (rdRef k.refs j).ls.length c', .slice Ax (rdRef k.refs j).ls.length cx, .agg #[.int .i64 (rdRef k.refs j).ref, .slice Ax (rdRef k.refs j).ls.length cx], .slice (some ⟨M4, 0, none⟩) 1 1, .slice A5 (j + 1) c5, .pointer (some ⟨N, 0, none⟩), u31, undef], defers := [] } W6 := by
          intro Ax A5 cx c5 M4 W6 HN
          refine hK2 _ _ ?_
          clear hK2 g0 g1 g2 g3
          go_wp2_with fail
          go_roundw
          case rel => exact ⟨j + 1, A5, c5, by omega, by go_num, HN⟩
          case measure => simp [intOf]; omega
        clear hK2
        go_region_law (first
          | (go_simp; go_at_call 40; refine (clone_lab_calls A' c' _ _ (Kd.C_below h4.out (below_drew (Below.refl _ _))) hsz.out).mono ?_; rintro e w4 ⟨Ax, cx, rfl, ho4, hb0⟩; have hb4 := below_step (below_drew (Below.refl W.heap.size W)) hb0; have q0 := pw_cell_below hb4 (a := ⟨N, 0, none⟩) g2; have q1 := pw_cell_below hb4 (a := ⟨M, 0, none⟩) g0; have q3 := (frozen_of_below hb4 N 0 hNW).trans g3; have q0a := fun o => pw_cell_below (below_alloc (Below.refl w4.heap.size w4) o) q0)
          | (refine Kd.R_append_step kRef (w0 := w) w.heap.size (by simp [Region.wanted]) _ _ 24 62 _ 32 rfl HTT.out infoRef rfl (by decide) (by omega) _ (k.refs.take j) ⟨(rdRef k.refs j).ref, (rdRef k.refs j).ls⟩ [.int .i64 (rdRef k.refs j).ref, .slice Ax (rdRef k.refs j).ls.length cx] (fun _ => True) (fun q => W.heap.size ≤ q) (by simp [Act.eval, Act.put]) (by simp [Act.eval, Act.put]) (kRef_mkM (clone_okp ho4 HJ2.out.below.size)) (fun q hq => ⟨trivial, clone_far HJ2.out.refs q hq⟩) (fun _ _ => trivial) (HJ2.out.refs.below hb4) (below_step HJ2.out.below hb4) (Nat.le_trans HJ2.out.below.size hb4.size) HBG.out ?_; intro v1 w5 k1 k2 k3 k4; obtain ⟨A5, c5, h5⟩ := Kd.R_slice k1; rw [HL1.out] at h5; subst h5; have s5 := HJ2.out.after hb4 k3; go_split_ands))
        all_goals exact rest2 _ _ _ _ _ _ (Aside0.mk (HJ2.out.next hb4 (by rw [HT.out]; exact k1) k2 k3))
      · obtain rfl : j = k.refs.length := by omega
        have hltb : ¬ (k.refs.length : Int) < (k.refs.length : Int) := by omega
        have hJ := HJ.out
        have m0 := cell_head hJ.cells
        have m1 := cell_mid hJ.cells
        have m2 := cell_last hJ.cells
        have t0 := cell_head hJ.res
        have t1 := cell_mid hJ.res
        have t2 := cell_last hJ.res
        have t3 : ∀ j, wr.frozen? ⟨w.heap.size + 1, j, none⟩ = false := fun j => by simp [World.frozen?, hJ.res]
        have HJ2 := Aside0.mk hJ
        clear hJ HJ
        go_wp2
        try simp only [Exit.inBlock, Exit.then]
        rw [set3 HJ2.out.res]
        have hR := setRow_heap wr (w.heap.size + 1) _ #[.slice A k.refs.length c, .slice Al k.lasts.length cl, .slice Ah k.has.length ch] _ _ HJ2.out.res
        refine bodyPost_ret (results_cell_row rfl _ _ (w.heap.size + 1) 28 #[.slice A k.refs.length c, .slice Al k.lasts.length cl, .slice Ah k.has.length ch] (0, 0) _ rfl hR Tryz.underlying28 rfl (by kernel_rfl)) rfl ?_
        have hg : wr.grownBy (wr.setRow (w.heap.size + 1) #[.slice A k.refs.length c, .slice Al k.lasts.length cl, .slice Ah k.has.length ch]) (some (w.heap.size + 1)) := grown_setRow (World.grownBy.refl wr _) _ _ (.inl rfl)
        have hr := HJ2.out.refs
        rw [List.take_length] at hr
        exact ⟨_, _, _, rfl, ⟨Row.typed hr HJ2.out.res noKn_ref hg, Row.typed HJ2.out.lasts HJ2.out.res noKn_int hg, Row.typed HJ2.out.has HJ2.out.res noKn_bool hg⟩, HJ2.out.below.grown hg HJ2.out.below.size (fun i hi => by injection hi with hi; omega)⟩
  go_region_held3 (fun U => U.cell? ⟨w.heap.size, 1, none⟩ = some (.slice A1 k.lasts.length c1) ∧ U.cell? ⟨w.heap.size, 2, none⟩ = some (.slice A2 k.has.length c2)) (first
      | exact ⟨e2, e3⟩
      | exact keep2 e2 e3 (below_alloc (below_drew (Below.refl W.heap.size W)) _)
      | exact keep2 e2 e3 (below_step (below_drew (Below.refl W.heap.size W)) hb2)
      | exact keep2 e2 e3 (below_alloc (below_step (below_drew (Below.refl W.heap.size W)) hb2) _)
      | exact keep2 e2 e3 (below_step (below_alloc (below_drew (Below.refl W.heap.size W)) _) hb2)
      | exact keep2 e2 e3 (below_step (below_step (below_drew (Below.refl W.heap.size W)) hb2) hb3)
      | exact keep2 e2 e3 (below_step (below_step (below_alloc (below_drew (Below.refl W.heap.size W)) _) hb2) hb3)
      | exact keep2 e2 e3 (below_step (below_alloc (below_step (below_drew (Below.refl W.heap.size W)) hb2) _) hb3)
      | exact keep2 e2 e3 (below_alloc (below_step (below_step (below_drew (Below.refl W.heap.size W)) hb2) hb3) _)
      | exact keep2 e2 e3 (below_set (below_set (below_set (below_step (below_step (below_alloc (below_drew (Below.refl W.heap.size W)) _) hb2) hb3) (Nat.le_refl _)) (Nat.le_refl _)) (Nat.le_refl _))
      | exact keep2 e2 e3 (below_set (below_set (below_set (below_step (below_alloc (below_step (below_drew (Below.refl W.heap.size W)) hb2) _) hb3) hb2.size) hb2.size) hb2.size)
      | go_keep)
    (first
      | (go_at_call 38; refine (clone_int_calls A1 c1 k.lasts _ (Kd.C_below H1.out (by first | exact below_drew HW.out | exact below_alloc (below_drew HW.out) _)) HZ.out.1).mono ?_; rintro e w2 ⟨Al, cl, rfl, ho2, hb2⟩; have hc2 := cells_of_below hb2; have hf2 := frozen_of_below hb2; have hs2 := size_of_below hb2)
      | (go_at_call 39; refine (clone_bool_calls A2 c2 k.has _ (Kd.C_below H2.out (by first | exact below_step (below_drew HW.out) hb2 | exact below_alloc (below_step (below_drew HW.out) hb2) _ | exact below_step (below_alloc (below_drew HW.out) _) hb2)) HZ.out.2).mono ?_; rintro e w3 ⟨Ah, ch, rfl, ho3, hb3⟩; have hc3 := cells_of_below hb3; have hf3 := frozen_of_below hb3; have hs3 := size_of_below hb3))
  have mid : CMid w (w3.alloc (.cells #[.slice none 0 0, .slice Al k.lasts.length cl, .slice Ah k.has.length ch] 28)) w3.heap.size k (.slice Al k.lasts.length cl) (.slice Ah k.has.length ch) A0 c0 :=
    ⟨Nat.lt_of_lt_of_le (Nat.lt_of_lt_of_le hw1 hb2.size) hb3.size, ((below_alloc (below_step (below_step (below_drew (Below.refl W.heap.size W)) hb2) hb3) _).block _ hw1).trans E4.out, heap_alloc_new _ _, below_alloc (below_step (below_step (below_drew HW.out) hb2) hb3) _, ((ho2.lower HW.out.size).below hb3).below (below_alloc (Below.refl _ _) _), (ho3.lower (Nat.le_trans HW.out.size hb2.size)).below (below_alloc (Below.refl _ _) _), pw_cell_below (below_alloc (below_step (below_step (below_drew (Below.refl _ _)) hb2) hb3) _) e1⟩
  generalize w3.alloc (.cells #[.slice none 0 0, .slice Al k.lasts.length cl, .slice Ah k.has.length ch] 28) = U at mid ⊢
  generalize w3.heap.size = N at mid ⊢
  rotate_left
  have h3 : w3.heap[w2.heap.size]? = some (.cells #[.slice none 0 0, .slice none 0 0, .slice none 0 0] 28 (0, 0)) := (hb3.block _ (by simp)).trans (heap_alloc_new _ _)
  rw [set3 h3]
  have hg := grown_setRow (World.grownBy.refl w3 (some w2.heap.size)) w2.heap.size #[.slice none 0 0, .slice Al k.lasts.length cl, .slice Ah k.has.length ch] (.inl rfl)
  have HX := below_step (below_alloc (below_step (below_drew HW.out) hb2) (.cells #[.slice none 0 0, .slice none 0 0, .slice none 0 0] 28)) hb3
  have mid : CMid w (w3.setRow w2.heap.size #[.slice none 0 0, .slice Al k.lasts.length cl, .slice Ah k.has.length ch]) w2.heap.size k (.slice Al k.lasts.length cl) (.slice Ah k.has.length ch) A0 c0 :=
    ⟨Nat.lt_of_lt_of_le hw1 hb2.size, (setRow_other _ _ _ _ (Nat.ne_of_lt (Nat.lt_of_lt_of_le hw1 hb2.size))).trans (((below_step (below_alloc (below_step (below_drew (Below.refl W.heap.size W)) hb2) _) hb3).block _ hw1).trans E4.out), setRow_heap _ _ _ _ _ _ h3, HX.grown hg HX.size (fun j hj => by injection hj with hj; rw [← hj]; exact Nat.le_of_lt (Nat.lt_of_lt_of_le hw0 hb2.size)), Row.typed (((ho2.lower HW.out.size).below (below_alloc (Below.refl _ _) _)).below hb3) h3 noKn_int hg, Row.typed (ho3.lower (Nat.le_trans HW.out.size (Nat.le_trans hb2.size (by simp)))) h3 noKn_bool hg, (hg.cell (pw_cell_below (below_step (below_alloc (below_step (below_drew (Below.refl _ _)) hb2) _) hb3) e1) (fun he => Nat.ne_of_lt (Nat.lt_of_lt_of_le hw0 hb2.size) (Option.some.inj he)))⟩
  generalize w3.setRow w2.heap.size #[.slice none 0 0, .slice Al k.lasts.length cl, .slice Ah k.has.length ch] = U at mid ⊢
  generalize w2.heap.size = N at mid ⊢
  rotate_left
  have h3 : w3.heap[W.heap.size]? = some (.cells #[.slice none 0 0, .slice none 0 0, .slice none 0 0] 28 (0, 0)) := (hb3.block _ (Nat.lt_of_lt_of_le (by simp) hb2.size)).trans ((hb2.block _ (by simp)).trans (heap_alloc_new W.drew _))
  rw [set3 h3]
  have hg := grown_setRow (World.grownBy.refl w3 (some W.heap.size)) W.heap.size #[.slice none 0 0, .slice Al k.lasts.length cl, .slice Ah k.has.length ch] (.inl rfl)
  have HX := below_step (below_step (below_alloc (below_drew HW.out) (.cells #[.slice none 0 0, .slice none 0 0, .slice none 0 0] 28)) hb2) hb3
  have mid : CMid w (w3.setRow W.heap.size #[.slice none 0 0, .slice Al k.lasts.length cl, .slice Ah k.has.length ch]) W.heap.size k (.slice Al k.lasts.length cl) (.slice Ah k.has.length ch) A0 c0 :=
    ⟨hw1, (setRow_other _ _ _ _ (Nat.ne_of_lt hw1)).trans (((below_step (below_step (below_alloc (below_drew (Below.refl W.heap.size W)) _) hb2) hb3).block _ hw1).trans E4.out), setRow_heap _ _ _ _ _ _ h3, HX.grown hg HX.size (fun j hj => by injection hj with hj; rw [← hj]; exact Nat.le_of_lt hw0), Row.typed ((ho2.lower (Nat.le_trans HW.out.size (by simp))).below hb3) h3 noKn_int hg, Row.typed (ho3.lower (Nat.le_trans HW.out.size (Nat.le_trans (by simp) hb2.size))) h3 noKn_bool hg, (hg.cell (pw_cell_below (below_step (below_step (below_alloc (below_drew (Below.refl _ _)) _) hb2) hb3) e1) (fun he => Nat.ne_of_lt hw0 (Option.some.inj he)))⟩
  generalize w3.setRow W.heap.size #[.slice none 0 0, .slice Al k.lasts.length cl, .slice Ah k.has.length ch] = U at mid ⊢
  generalize W.heap.size = N at mid ⊢
  all_goals exact rest _ _ _ _ _ _ mid
end Go.Proofs.YtgmdgaioiifgnaaGreat
