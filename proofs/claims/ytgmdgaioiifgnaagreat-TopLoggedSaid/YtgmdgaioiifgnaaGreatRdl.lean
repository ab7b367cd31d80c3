/- record.reader: a label is read (record$1$1). -/
import Derived.Test.YtgmdgaioiifgnaaGreatRd
import Derived.Test.YtgmdgaioiifgnaaGreatRcd
import Derived.Deep.RegionHeld3
set_option linter.unusedVariables false
set_option linter.unusedSimpArgs false
namespace Go.Proofs.YtgmdgaioiifgnaaGreat
open Go.RowKit Go.Proofs.YtgmdgaioiifgnaaGreatW.PrintWords
theorem cell_grown {w w1 : World} {rb : Nat} {a : Addr} {v : Value} (h : w.cell? a = some v) (hg : w.grownBy w1 (some rb)) (hne : a.block ≠ rb) : w1.cell? a = some v := by
  have hlt : a.block < w.heap.size := by
    rcases Nat.lt_or_ge a.block w.heap.size with h1 | h1
    · exact h1
    · simp only [World.cell?, Array.getElem?_eq_none h1] at h
      cases h
  exact (World.cell?_of_block (hg.block a.block hlt (fun he => hne (Option.some.inj he)))).trans h
theorem obj_grown {w w1 : World} {rb g : Nat} {o : Obj} (h : w.heap[g]? = some o) (hg : w.grownBy w1 (some rb)) (hne : g ≠ rb) : w1.heap[g]? = some o :=
  (hg.block g (Array.getElem?_eq_some_iff.1 h).1 (fun he => hne (Option.some.inj he))).trans h
theorem grown_far {ws w w1 : World} {rb row : Option Nat} (h : ws.grownBy w rb) (hg : w.grownBy w1 row) (hrow : ∀ k, row = some k → ws.heap.size ≤ k) : ws.grownBy w1 rb :=
  ⟨hg.os.trans h.os, hg.tape.trans h.tape, hg.output.trans h.output, Nat.le_trans h.size hg.size, fun k hk hr => (hg.block k (Nat.lt_of_lt_of_le hk h.size) (fun he => by have := hrow k he.symm; omega)).trans (h.block k hk hr)⟩
theorem grown_near {ws w w1 : World} {rb : Option Nat} (h : ws.grownBy w rb) (hg : w.grownBy w1 rb) : ws.grownBy w1 rb :=
  ⟨hg.os.trans h.os, hg.tape.trans h.tape, hg.output.trans h.output, Nat.le_trans h.size hg.size, fun k hk hr => (hg.block k (Nat.lt_of_lt_of_le hk h.size) hr).trans (h.block k hk hr)⟩
theorem types_ne {w : World} {g g2 T T2 : Nat} {c c2 : Array Value} {f f2 : Nat × Nat} (h : w.heap[g]? = some (.cells c T f)) (h2 : w.heap[g2]? = some (.cells c2 T2 f2)) (hT : T ≠ T2) : g ≠ g2 := fun he => by
  subst he
  rw [h] at h2
  injection h2 with h2
  injection h2 with _ h2
  exact hT h2
/-- The labels read so far. -/
structure LabI (ws w : World) (rb pb xb : Nat) (ref : Int) (ls : List Lab) (T : ByteArray) (j : Nat) : Prop where
  rd : RdS w rb (labsB (ls.drop j) ++ T)
  pc : w.heap[pb]? = some (.cells #[.pointer (some ⟨rb, 0, none⟩)] 84 (0, 0))
  xc : ∃ A c, w.heap[xb]? = some (.cells #[.int .i64 ref, .slice A j c] 62 (0, 0)) ∧ Row kLab 64 ws w (.slice A j c) (ls.take j)
  fr : ws.grownBy w (some rb)
  xbig : ws.heap.size ≤ xb
theorem LabI.next {ws w w2 w5 : World} {rb pb xb : Nat} {ref : Int} {ls : List Lab} {T : ByteArray} {j : Nat} {A A5 : Option Addr} {c c5 : Nat} {v : Value} (h : LabI ws w rb pb xb ref ls T j) (hG : w.grownBy w2 (some rb))
    (X5 : w5.heap[xb]? = some (.cells #[.int .i64 ref, .slice A j c] 62 (0, 0))) (P5 : w5.heap[pb]? = some (.cells #[.pointer (some ⟨rb, 0, none⟩)] 84 (0, 0))) (R5 : w5.heap[rb]? = some (.cells #[.string (labsB (ls.drop (j + 1)) ++ T)] 86 (0, 0)))
    (k1 : Row kLab 64 ws w5 (.slice A5 (j + 1) c5) (ls.take j ++ [rdLab ls j])) (k3 : w2.grownBy w5 v.ownBlock) (hv : ∀ k, v.ownBlock = some k → ws.heap.size ≤ k) (hne_x : xb ≠ rb) (hne_xp : xb ≠ pb) (hj : j < ls.length) :
    LabI ws (w5.setCell ⟨xb, 1, none⟩ (.slice A5 (j + 1) c5)) rb pb xb ref ls T (j + 1) := by
  have hs := setCell_eq_setRow w5 xb 1 _ _ _ (.slice A5 (j + 1) c5) X5
  have hg : w5.grownBy (w5.setRow xb #[.int .i64 ref, .slice A5 (j + 1) c5]) (some xb) := grown_setRow (World.grownBy.refl w5 _) _ _ (.inl rfl)
  have hs' : w5.setCell ⟨xb, 1, none⟩ (.slice A5 (j + 1) c5) = w5.setRow xb #[.int .i64 ref, .slice A5 (j + 1) c5] := hs
  rw [hs']
  refine ⟨(setRow_other _ _ _ _ (Ne.symm hne_x)).trans R5, (setRow_other _ _ _ _ (Ne.symm hne_xp)).trans P5, ⟨A5, c5, setRow_heap _ _ _ _ _ _ X5, ?_⟩, grown_far (grown_far (grown_near h.fr hG) k3 hv) hg (fun q hq => by injection hq with hq; rw [← hq]; exact h.xbig), h.xbig⟩
  rw [List.take_succ_eq_append_getElem hj, ← rdLab_eq hj]
  exact Row.typed k1 X5 (by decide) hg
theorem infoLabR : (Tryz.prog.info? 64).map (fun i => (i.zero, i.size, i.bytes)) = some (some (.agg #[.string ⟨#[]⟩, .string ⟨#[]⟩]), 2, 32) := by kernel_rfl
theorem labsB_drop {l : List Lab} {k : Nat} (h : k < l.length) : labsB (l.drop k) = txtB (rdLab l k).n ++ (txtB (rdLab l k).v ++ labsB (l.drop (k + 1))) := by
  rw [List.drop_eq_getElem_cons h, ← rdLab_eq h, labsB, labB, ByteArray.append_assoc]
theorem ptr_cell {w : World} {g : Nat} {x : Value} {T : TypeId} (h : w.heap[g]? = some (.cells #[x] T (0, 0))) : w.cell? ⟨g, 0, none⟩ = some x := by rw [row_cell h]; rfl
theorem cell_second {w : World} {g : Nat} {x y : Value} {T : TypeId} (h : w.heap[g]? = some (.cells #[x, y] T (0, 0))) : w.cell? ⟨g, 1, none⟩ = some y := by rw [row_cell h]; rfl
theorem free_obj {w : World} {g : Nat} {cs : Array Value} {T : TypeId} (h : w.heap[g]? = some (.cells cs T (0, 0))) (j : Nat) : w.frozen? ⟨g, j, none⟩ = false := by simp [World.frozen?, h]
set_option maxHeartbeats 4000000 in
set_option maxRecDepth 100000 in
theorem lab1_calls (ws w : World) (rb pb xb : Nat) (ref : Int) (ls : List Lab) (T : ByteArray) (j : Nat) (hj : j < ls.length) (hl : ls.length ≤ 1000000) (h : LabI ws w rb pb xb ref ls T j) (hz : (labsB (ls.drop j) ++ T).size ≤ 140737488351232) :
    Calls Tryz.prog 58 #[.pointer (some ⟨xb, 0, none⟩), .pointer (some ⟨pb, 0, none⟩)] w fun e w' => e = .returned (.tuple #[]) ∧ LabI ws w' rb pb xb ref ls T (j + 1) := by
  obtain ⟨A, c, xc, hrow⟩ := h.xc
  have hrd := h.rd
  rw [labsB_drop hj, ByteArray.append_assoc, ByteArray.append_assoc] at hrd
  rw [labsB_drop hj, ByteArray.append_assoc, ByteArray.append_assoc] at hz
  have HZ1 := Aside0.mk hz
  have HZ2 := Aside0.mk (show (txtB (rdLab ls j).v ++ (labsB (ls.drop (j + 1)) ++ T)).size ≤ 140737488351232 by rw [ByteArray.size_append] at hz; omega)
  have hne_x : xb ≠ rb := types_ne xc hrd (by decide)
  have hne_p : pb ≠ rb := types_ne h.pc hrd (by decide)
  have hne_xp : xb ≠ pb := types_ne xc h.pc (by decide)
  have x1 : w.cell? ⟨xb, 1, none⟩ = some (.slice A j c) := by rw [row_cell xc]; rfl
  have p0 : w.cell? ⟨pb, 0, none⟩ = some (.pointer (some ⟨rb, 0, none⟩)) := by rw [row_cell h.pc]; rfl
  have HI := Aside0.mk h
  have HX := Aside0.mk xc
  have HRow := Aside0.mk hrow
  have HR0 := Aside0.mk hrd
  have HL1 := Aside0.mk (show (ls.take j ++ [rdLab ls j]).length = j + 1 by simp; omega)
  have hR : RdS w.drew rb (txtB (rdLab ls j).n ++ (txtB (rdLab ls j).v ++ (labsB (ls.drop (j + 1)) ++ T))) := hrd.below (below_drew (Below.refl _ _))
  have hG : w.grownBy w.drew (some rb) := grown_below _ (below_drew (Below.refl _ _))
  have HTT := Aside0.mk (show Tryz.prog.underlying 60 = some (.slice 64) by kernel_rfl)
  clear h hz hrd xc hrow
  go_enter Tryz.func58, Tryz.ntmps58
  go_wp2_with fail
  replace p0 := show w.drew.cell? ⟨pb, 0, none⟩ = some (.pointer (some ⟨rb, 0, none⟩)) from p0
  replace x1 := show w.drew.cell? ⟨xb, 1, none⟩ = some (.slice A j c) from x1
  have hX : w.drew.heap[xb]? = _ := HX.out
  have hP : w.drew.heap[pb]? = _ := HI.out.pc
  go_region_law (first
      | (go_simp; go_at_call 59; refine (rdText_calls rb _ _ _ hR (by first | exact HZ1.out | exact HZ2.out)).mono ?_; rintro e w2 ⟨rfl, hr, hg⟩; replace hR := hr; replace p0 := cell_grown p0 hg hne_p; replace x1 := cell_grown x1 hg hne_x; replace hX := obj_grown hX hg hne_x; replace hP := obj_grown hP hg hne_p; replace hG := grown_near hG hg; have x1a := pw_cell_below (below_alloc (Below.refl w2.heap.size w2) (.cells #[.string (rdLab ls j).n, .string (rdLab ls j).v] 64)) x1; clear hr hg)
      | (refine Kd.R_append_step kLab ws.heap.size (by simp [Region.wanted]) _ _ 60 64 _ 32 rfl HTT.out infoLabR rfl (by decide) (by omega) _ (ls.take j) (rdLab ls j) [.string (rdLab ls j).n, .string (rdLab ls j).v] (fun _ => True) (fun _ => False) (by simp [Act.eval, Act.put]) (by simp [Act.eval, Act.put]) (kLab_mkM _ _ _ _) (fun _ h => h.elim) (fun _ _ => trivial) (Row.typed HRow.out HR0.out (by decide) hG) (Below.refl _ _) (Nat.le_trans HI.out.fr.size hG.size) (by simp; omega) ?_; intro v1 w5 k1 k2 k3 k4; obtain ⟨inner, ho⟩ := Kd.R_own (Row.typed HRow.out HR0.out (by decide) hG); obtain ⟨A5, c5, h5⟩ := Kd.R_slice k1; rw [HL1.out] at h5; subst h5; have X5 := kept_obj hX ho (fun cells he => by injection he with _ he; exact absurd he (by decide)) k3; have P5 := kept_obj hP ho (fun cells he => by injection he with _ he; exact absurd he (by decide)) k3; have R5 := kept_obj hR ho (fun cells he => by injection he with _ he; exact absurd he (by decide)) k3; have FIN := Aside0.mk (HI.out.next hG X5 P5 R5 k1 k3 (fun q hq => own_base ho q hq) hne_x hne_xp hj); have y5 := cell_second X5; have f5 := free_obj X5 1; clear X5 P5 R5 k1 k2 k3 k4 ho x1 x1a p0 hX hP hR hG))
  all_goals
    try simp only [Exit.inBlock, Exit.then]
    go_end0
    exact ⟨rfl, FIN.out⟩
end Go.Proofs.YtgmdgaioiifgnaaGreat
