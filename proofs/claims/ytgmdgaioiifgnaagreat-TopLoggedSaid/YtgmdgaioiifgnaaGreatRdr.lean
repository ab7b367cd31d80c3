/- record.reader: a ref is read (record$1). -/
import Derived.Test.YtgmdgaioiifgnaaGreatRdl
import Derived.Test.YtgmdgaioiifgnaaGreatKn
set_option linter.unusedVariables false
set_option linter.unusedSimpArgs false
namespace Go.Proofs.YtgmdgaioiifgnaaGreat
open Go.RowKit Go.Proofs.YtgmdgaioiifgnaaGreatW.PrintWords
/-- The refs read so far. -/
structure RefI (ws w : World) (rb pb ob : Nat) (kind : Int) (refs : List Rf) (T : ByteArray) (j : Nat) : Prop where
  rd : RdS w rb (refsB (refs.drop j) ++ T)
  pc : w.heap[pb]? = some (.cells #[.pointer (some ⟨rb, 0, none⟩)] 84 (0, 0))
  oc : ∃ A c, w.heap[ob]? = some (.cells #[.int .i64 kind, .slice A j c, .slice none 0 0] 35 (0, 0)) ∧ Row kRef 62 ws w (.slice A j c) (refs.take j)
  fr : ws.grownBy w (some rb)
  obig : ws.heap.size ≤ ob
theorem refsB_drop {l : List Rf} {k : Nat} (h : k < l.length) : refsB (l.drop k) = numberB (rdRef l k).ref ++ (numberB (rdRef l k).ls.length ++ (labsB (rdRef l k).ls ++ refsB (l.drop (k + 1)))) := by
  rw [List.drop_eq_getElem_cons h, ← rdRef_eq h, refsB, refB]
  simp only [ByteArray.append_assoc]
theorem labsB_append (a b : List Lab) : labsB (a ++ b) = labsB a ++ labsB b := by
  induction a with
  | nil => rw [labsB, emp_append]; rfl
  | cons x a ih => rw [List.cons_append, labsB, labsB, ih, ByteArray.append_assoc]
theorem numberB_pos (n : Int) : 0 < (numberB n).size := by
  rw [numberB, strOfNums_size]
  have := numI_ne n
  exact List.length_pos_iff.2 this
theorem labsB_long : ∀ l : List Lab, l.length ≤ (labsB l).size
  | [] => Nat.zero_le _
  | x :: l => by
    have h1 := labsB_long l
    have h2 := numberB_pos x.n.size
    rw [labsB, labB, txtB, ByteArray.size_append, ByteArray.size_append, ByteArray.size_append, List.length_cons]
    omega
theorem labsB_drop_le (l : List Lab) (j : Nat) : (labsB (l.drop j)).size ≤ (labsB l).size := by
  have h := labsB_append (l.take j) (l.drop j)
  rw [List.take_append_drop] at h
  rw [h, ByteArray.size_append]; omega
theorem RefI.next {ws w w4 w5 : World} {rb pb ob : Nat} {kind : Int} {refs : List Rf} {T : ByteArray} {j : Nat} {A A5 : Option Addr} {c c5 : Nat} {v : Value} (h : RefI ws w rb pb ob kind refs T j) (hG : w.grownBy w4 (some rb))
    (X5 : w5.heap[ob]? = some (.cells #[.int .i64 kind, .slice A j c, .slice none 0 0] 35 (0, 0))) (P5 : w5.heap[pb]? = some (.cells #[.pointer (some ⟨rb, 0, none⟩)] 84 (0, 0))) (R5 : w5.heap[rb]? = some (.cells #[.string (refsB (refs.drop (j + 1)) ++ T)] 86 (0, 0)))
    (k1 : Row kRef 62 ws w5 (.slice A5 (j + 1) c5) (refs.take j ++ [rdRef refs j])) (k3 : w4.grownBy w5 v.ownBlock) (hv : ∀ k, v.ownBlock = some k → ws.heap.size ≤ k) (hne_x : ob ≠ rb) (hne_xp : ob ≠ pb) (hj : j < refs.length) :
    RefI ws (w5.setCell ⟨ob, 1, none⟩ (.slice A5 (j + 1) c5)) rb pb ob kind refs T (j + 1) := by
  have hs : w5.setCell ⟨ob, 1, none⟩ (.slice A5 (j + 1) c5) = w5.setRow ob #[.int .i64 kind, .slice A5 (j + 1) c5, .slice none 0 0] := setCell_eq_setRow w5 ob 1 _ _ _ (.slice A5 (j + 1) c5) X5
  have hg : w5.grownBy (w5.setRow ob #[.int .i64 kind, .slice A5 (j + 1) c5, .slice none 0 0]) (some ob) := grown_setRow (World.grownBy.refl w5 _) _ _ (.inl rfl)
  rw [hs]
  refine ⟨(setRow_other _ _ _ _ (Ne.symm hne_x)).trans R5, (setRow_other _ _ _ _ (Ne.symm hne_xp)).trans P5, ⟨A5, c5, setRow_heap _ _ _ _ _ _ X5, ?_⟩, grown_far (grown_far (grown_near h.fr hG) k3 hv) hg (fun q hq => by injection hq with hq; rw [← hq]; exact h.obig), h.obig⟩
  rw [List.take_succ_eq_append_getElem hj, ← rdRef_eq hj]
  exact Row.typed k1 X5 (by decide) hg
theorem enter_lab1 (caps : Array Value) (w : World) : (callFunc 58 caps).run Tryz.prog w = .ok (.enter 58 caps) w :=
  enter_run Tryz.func58 (by kernel_rfl) (c := Tryz.f58.body.get (by kernel_rfl)) (by kernel_rfl) caps w
set_option maxHeartbeats 4000000 in
set_option maxRecDepth 100000 in
theorem ref1_calls (ws w : World) (rb pb ob : Nat) (kind : Int) (refs : List Rf) (T : ByteArray) (j : Nat) (hj : j < refs.length) (hl : refs.length ≤ 1000000) (h : RefI ws w rb pb ob kind refs T j) (hz : (refsB (refs.drop j) ++ T).size ≤ 140737488351232) (hr0 : 0 ≤ (rdRef refs j).ref) (hr1 : (rdRef refs j).ref ≤ 1000000) (hls : (rdRef refs j).ls.length ≤ 1000000) :
    Calls Tryz.prog 56 #[.pointer (some ⟨pb, 0, none⟩), .pointer (some ⟨ob, 0, none⟩)] w fun e w' => e = .returned (.tuple #[]) ∧ RefI ws w' rb pb ob kind refs T (j + 1) := by
  obtain ⟨A, c, oc, hrow⟩ := h.oc
  have hrd := h.rd
  rw [refsB_drop hj] at hrd hz
  obtain ⟨x, hx⟩ : ∃ x, rdRef refs j = x := ⟨_, rfl⟩
  rw [hx] at hrd hz hr0 hr1 hls
  simp only [ByteArray.append_assoc] at hrd hz
  have HZ1 := Aside0.mk hz
  have HZ2 := Aside0.mk (show (numberB x.ls.length ++ (labsB x.ls ++ (refsB (refs.drop (j + 1)) ++ T))).size ≤ 140737488351232 by rw [ByteArray.size_append] at hz; omega)
  have HZ3 := Aside0.mk (show ∀ m, (labsB (x.ls.drop m) ++ (refsB (refs.drop (j + 1)) ++ T)).size ≤ 140737488351232 by
    intro m
    have h1 := labsB_drop_le x.ls m
    have h2 := HZ2.out
    rw [ByteArray.size_append, ByteArray.size_append] at h2
    rw [ByteArray.size_append]; omega)
  have HLN := Aside0.mk (show x.ls.length ≤ (labsB x.ls ++ (refsB (refs.drop (j + 1)) ++ T)).size by have := labsB_long x.ls; rw [ByteArray.size_append]; omega)
  have hne_x : ob ≠ rb := types_ne oc hrd (by decide)
  have hne_p : pb ≠ rb := types_ne h.pc hrd (by decide)
  have hne_xp : ob ≠ pb := types_ne oc h.pc (by decide)
  have p0 : w.cell? ⟨pb, 0, none⟩ = some (.pointer (some ⟨rb, 0, none⟩)) := ptr_cell h.pc
  have HI := Aside0.mk h
  have HX := Aside0.mk oc
  have HRow := Aside0.mk hrow
  have HR0 := Aside0.mk hrd
  have HXX := Aside0.mk hx
  have hmf : ∀ (fn : Fn) (first cap : Array Value) (w : World), (Instr.makeFunc fn first cap).run Tryz.prog w = .ok (.func fn first cap) w := fun _ _ _ _ => rfl
  clear h hz hrd oc hrow hx
  go_enter Tryz.func56, Tryz.ntmps56
  go_wp2_with fail
  refine (rdNumber_calls rb _ _ _ HR0.out hr0 (by omega) HZ1.out).mono ?_; rintro e w1 ⟨rfl, hr, hg⟩
  have HR1 := Aside0.mk hr
  have HG1 := Aside0.mk hg
  have HP1 := Aside0.mk (obj_grown HI.out.pc hg hne_p)
  have HX1 := Aside0.mk (obj_grown HX.out hg hne_x)
  have HRow1 := Aside0.mk (Row.typed HRow.out HR0.out (by decide) hg)
  have p1 := pw_cell_below (below_alloc (Below.refl w1.heap.size w1) (.cells #[.int .i64 x.ref, .slice none 0 0] 62)) (ptr_cell HP1.out)
  clear hr hg p0
  go_wp2_with fail
  have hb1 := below_alloc (Below.refl w1.heap.size w1) (.cells #[.int .i64 x.ref, .slice none 0 0] 62)
  refine (many_calls rb 58 #[.pointer (some ⟨w1.heap.size, 0, none⟩), .pointer (some ⟨pb, 0, none⟩)] x.ls.length (labsB x.ls ++ (refsB (refs.drop (j + 1)) ++ T)) (fun m U => LabI w1 U rb pb w1.heap.size x.ref x.ls (refsB (refs.drop (j + 1)) ++ T) m) _ (HR1.out.below hb1) HLN.out HZ2.out (enter_lab1 _) ?_ ?_).mono ?_
  · intro w3 hg3 hr3
    have hne1 : w1.heap.size ≠ rb := fun he => by have := (Array.getElem?_eq_some_iff.1 HR1.out).1; omega
    exact ⟨hr3, obj_grown (block_below' HP1.out hb1) hg3 hne_p, ⟨none, 0, obj_grown (heap_alloc_new w1 _) hg3 hne1, Row.nil _ _ _ _⟩, grown_near (grown_below _ hb1) hg3, Nat.le_refl _⟩
  · intro m U hm hL
    exact lab1_calls w1 U rb pb w1.heap.size x.ref x.ls _ m hm hls hL (HZ3.out m)
  rintro e w4 ⟨rfl, hLI⟩
  obtain ⟨Ax, cx, hxc, hxr⟩ := hLI.xc
  rw [List.take_length] at hxr
  have hrd4 := hLI.rd
  rw [List.drop_length, labsB, emp_append] at hrd4
  have hRx := hxr.reads
  have HX4 := Aside0.mk (obj_grown HX1.out hLI.fr hne_x)
  have HP4 := Aside0.mk (obj_grown HP1.out hLI.fr hne_p)
  have HR4 := Aside0.mk hrd4
  have HRow4 := Aside0.mk (Row.typed HRow1.out HR1.out (by decide) hLI.fr)
  have HXR := Aside0.mk hxr
  have HG4 := Aside0.mk (grown_near HG1.out hLI.fr)
  have u1 := cell_mid HX4.out
  have v0 : w4.cell? ⟨w1.heap.size, 0, none⟩ = some (.int .i64 x.ref) := by rw [row_cell hxc]; rfl
  have vv1 := cell_second hxc
  clear hLI hxc hxr hrd4 hRx hb1 p1
  have HTT := Aside0.mk (show Tryz.prog.underlying 24 = some (.slice 62) by kernel_rfl)
  have HL1 := Aside0.mk (show (refs.take j ++ [(⟨x.ref, x.ls⟩ : Rf)]).length = j + 1 by simp; omega)
  go_wp2_with (at_builtin; (refine Kd.R_append kRef ws.heap.size rfl (.tmp 10) (.tmp 12) 24 62 _ 32 rfl HTT.out infoRef rfl (by decide) (by omega) (.slice A j c) (refs.take j) ⟨x.ref, x.ls⟩ [.int .i64 x.ref, .slice Ax x.ls.length cx] (fun _ => True) (fun q => w1.heap.size ≤ q) rfl rfl (kRef_mkM (clone_okp HXR.out (Nat.le_trans HI.out.fr.size HG1.out.size))) (fun q hq => ⟨trivial, clone_far HRow1.out q hq⟩) (fun _ _ => trivial) HRow4.out (Below.refl _ _) (Nat.le_trans HI.out.fr.size HG4.out.size) (by simp; omega) ?_; intro v1 w5 k1 k2 k3 k4; obtain ⟨inner, ho⟩ := Kd.R_own HRow4.out; obtain ⟨A5, c5, h5⟩ := Kd.R_slice k1; rw [HL1.out] at h5; subst h5; have X5 := kept_obj HX4.out ho (fun cells he => by injection he with _ he; exact absurd he (by decide)) k3; have P5 := kept_obj HP4.out ho (fun cells he => by injection he with _ he; exact absurd he (by decide)) k3; have R5 := kept_obj HR4.out ho (fun cells he => by injection he with _ he; exact absurd he (by decide)) k3; have FIN := Aside0.mk (HI.out.next HG4.out X5 P5 R5 (by rw [HXX.out]; exact k1) k3 (fun q hq => own_base ho q hq) hne_x hne_xp hj); have y5 := cell_mid X5; have f5 := free_obj X5 1; clear X5 P5 R5 k1 k2 k3 k4 ho))
  go_end0
  exact ⟨rfl, FIN.out⟩
end Go.Proofs.YtgmdgaioiifgnaaGreat
