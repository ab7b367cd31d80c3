/- record.reader.record, over what was packed. -/
import Derived.Test.YtgmdgaioiifgnaaGreatRdp
import Derived.Test.YtgmdgaioiifgnaaGreatLrn
set_option linter.unusedVariables false
set_option linter.unusedSimpArgs false
namespace Go.Proofs.YtgmdgaioiifgnaaGreat
open Go.RowKit Go.Proofs.YtgmdgaioiifgnaaGreatW.PrintWords
theorem refsB_append (a b : List Rf) : refsB (a ++ b) = refsB a ++ refsB b := by
  induction a with
  | nil => rw [refsB, emp_append]; rfl
  | cons x a ih => rw [List.cons_append, refsB, refsB, ih, ByteArray.append_assoc]
theorem ptsB_append (a b : List Pt) : ptsB (a ++ b) = ptsB a ++ ptsB b := by
  induction a with
  | nil => rw [ptsB, emp_append]; rfl
  | cons x a ih => rw [List.cons_append, ptsB, ptsB, ih, ByteArray.append_assoc]
theorem refsB_drop_le (l : List Rf) (j : Nat) : (refsB (l.drop j)).size ≤ (refsB l).size := by
  have h := refsB_append (l.take j) (l.drop j)
  rw [List.take_append_drop] at h
  rw [h, ByteArray.size_append]; omega
theorem ptsB_drop_le (l : List Pt) (j : Nat) : (ptsB (l.drop j)).size ≤ (ptsB l).size := by
  have h := ptsB_append (l.take j) (l.drop j)
  rw [List.take_append_drop] at h
  rw [h, ByteArray.size_append]; omega
theorem refsB_long : ∀ l : List Rf, l.length ≤ (refsB l).size
  | [] => Nat.zero_le _
  | x :: l => by
    have h1 := refsB_long l
    have h2 := numberB_pos x.ref
    rw [refsB, refB, ByteArray.size_append, ByteArray.size_append, ByteArray.size_append, List.length_cons]
    omega
theorem ptsB_long : ∀ l : List Pt, l.length ≤ (ptsB l).size
  | [] => Nat.zero_le _
  | x :: l => by
    have h1 := ptsB_long l
    have h2 := numberB_pos x.ref
    rw [ptsB, ptB, ByteArray.size_append, ByteArray.size_append, ByteArray.size_append, List.length_cons]
    omega
theorem enter_ref1 (caps : Array Value) (w : World) : (callFunc 56 caps).run Tryz.prog w = .ok (.enter 56 caps) w :=
  enter_run Tryz.func56 (by kernel_rfl) (c := Tryz.f56.body.get (by kernel_rfl)) (by kernel_rfl) caps w
theorem enter_pt1 (caps : Array Value) (w : World) : (callFunc 60 caps).run Tryz.prog w = .ok (.enter 60 caps) w :=
  enter_run Tryz.func60 (by kernel_rfl) (c := Tryz.f60.body.get (by kernel_rfl)) (by kernel_rfl) caps w
/-- A record, in rows of one's own. -/
structure RcO (w w' : World) (v : Value) (r : Rc) : Prop where
  ex : ∃ A0 c0 A1 c1, v = .agg #[.int .i64 r.kind, .slice A0 r.refs.length c0, .slice A1 r.pts.length c1] ∧ Row kRef 62 w w' (.slice A0 r.refs.length c0) r.refs ∧ Row kPt 50 w w' (.slice A1 r.pts.length c1) r.pts
structure RecPost (w : World) (rb : Nat) (r : Rc) (T : ByteArray) (e : Ending) (w' : World) : Prop where
  ex : ∃ v, e = .returned v ∧ RcO w w' v r
  rd : RdS w' rb T
  fr : w.grownBy w' (some rb)
set_option maxHeartbeats 4000000 in
set_option maxRecDepth 100000 in
theorem rec1_calls (w : World) (rb : Nat) (refs : List Rf) (T : ByteArray) (h : RdS w rb (packB ⟨1, refs, []⟩ ++ T)) (hz : (packB ⟨1, refs, []⟩ ++ T).size ≤ 140737488351232) (hc : checkRc ⟨1, refs, []⟩ = 0) :
    Calls Tryz.prog 33 #[.pointer (some ⟨rb, 0, none⟩)] w (RecPost w rb ⟨1, refs, []⟩ T) := by
  have hO := rc_ok hc
  have hn := hO.nrefs
  simp only at hn
  have hpk : packB ⟨1, refs, []⟩ ++ T = ⟨#[1]⟩ ++ (numberB refs.length ++ (refsB refs ++ T)) := by
    show ⟨#[1]⟩ ++ numberB refs.length ++ refsB refs ++ T = _
    simp only [ByteArray.append_assoc]
  rw [hpk] at h hz
  have HOO := Aside0.mk hO
  have H := Aside0.mk h
  have HZ0 := Aside0.mk hz
  have HZ1 := Aside0.mk (show (numberB refs.length ++ (refsB refs ++ T)).size ≤ 140737488351232 by rw [ByteArray.size_append] at hz; omega)
  have HZ2 := Aside0.mk (show ∀ m, (refsB (refs.drop m) ++ T).size ≤ 140737488351232 by
    intro m
    have h1 := refsB_drop_le refs m
    have h2 := HZ1.out
    rw [ByteArray.size_append, ByteArray.size_append] at h2
    rw [ByteArray.size_append]; omega)
  have HLN := Aside0.mk (show refs.length ≤ (refsB refs ++ T).size by have := refsB_long refs; rw [ByteArray.size_append]; omega)
  have hrb : rb < w.heap.size := (Array.getElem?_eq_some_iff.1 h).1
  have hmf : ∀ (fn : Fn) (first cap : Array Value) (w : World), (Instr.makeFunc fn first cap).run Tryz.prog w = .ok (.func fn first cap) w := fun _ _ _ _ => rfl
  have e0 : ((⟨#[1]⟩ : ByteArray)[0]'(by show 0 < 1; omega)).toNat = 1 := rfl
  have HB0 := Aside0.mk (below_alloc (below_alloc (Below.refl w.heap.size w) (.cells #[.pointer (some ⟨rb, 0, none⟩)] 84)) (.cells #[.int .i64 0, .slice none 0 0, .slice none 0 0] 35))
  have HPB := Aside0.mk (block_below' (heap_alloc_new w (.cells #[.pointer (some ⟨rb, 0, none⟩)] 84)) (below_alloc (Below.refl _ _) (.cells #[.int .i64 0, .slice none 0 0, .slice none 0 0] 35)))
  have HRES := Aside0.mk (show ((w.alloc (.cells #[.pointer (some ⟨rb, 0, none⟩)] 84)).alloc (.cells #[.int .i64 0, .slice none 0 0, .slice none 0 0] 35)).heap[w.heap.size + 1]? = some (.cells #[.int .i64 0, .slice none 0 0, .slice none 0 0] 35 (0, 0)) by
    have := heap_alloc_new (w.alloc (.cells #[.pointer (some ⟨rb, 0, none⟩)] 84)) (.cells #[.int .i64 0, .slice none 0 0, .slice none 0 0] 35)
    rwa [show (w.alloc (.cells #[.pointer (some ⟨rb, 0, none⟩)] 84)).heap.size = w.heap.size + 1 from by simp] at this)
  clear h hz hpk hO
  go_enter Tryz.func33, Tryz.ntmps33
  go_wp2_with fail
  refine (take_calls rb ⟨#[1]⟩ _ 1 _ (RdS.below H.out HB0.out) rfl HZ0.out).mono ?_; rintro e w3 ⟨rfl, hr3, hg3⟩
  have hne_p : w.heap.size ≠ rb := by omega
  have hne_s : w.heap.size + 1 ≠ rb := by omega
  have HR3 := Aside0.mk hr3
  have HP3 := Aside0.mk (obj_grown HPB.out hg3 hne_p)
  have HS3 := Aside0.mk (obj_grown HRES.out hg3 hne_s)
  have HG3 := Aside0.mk (grown_near (grown_below (some rb) HB0.out) hg3)
  clear hr3 hg3 HB0 HPB HRES H
  have hba := below_alloc (Below.refl w3.heap.size w3) (.cells #[.int .i64 1, .slice none 0 0, .slice none 0 0] 35)
  have p0 := ptr_cell (block_below' HP3.out hba)
  have k0 := cell_head (heap_alloc_new w3 (.cells #[.int .i64 1, .slice none 0 0, .slice none 0 0] 35))
  have HR4 := Aside0.mk (RdS.below HR3.out hba)
  have HP4 := Aside0.mk (block_below' HP3.out hba)
  have hob : w3.heap.size ≠ rb := fun he => by have := (Array.getElem?_eq_some_iff.1 HR3.out).1; omega
  clear hba
  go_wp2_with fail
  refine (many_calls rb 56 #[.pointer (some ⟨w.heap.size, 0, none⟩), .pointer (some ⟨w3.heap.size, 0, none⟩)] refs.length (refsB refs ++ T) (fun m U => RefI w3 U rb w.heap.size w3.heap.size 1 refs T m) _ HR4.out HLN.out HZ1.out (enter_ref1 _) ?_ ?_).mono ?_
  · intro w5 hg5 hr5
    exact ⟨by rw [List.drop_zero]; exact hr5, obj_grown HP4.out hg5 hne_p, ⟨none, 0, obj_grown (heap_alloc_new w3 _) hg5 hob, Row.nil _ _ _ _⟩, grown_near (grown_below _ (below_alloc (Below.refl _ _) _)) hg5, Nat.le_refl _⟩
  · intro m U hm hI
    obtain ⟨o1, o2, o3, o4⟩ := HOO.out.refs m hm
    simp only at o1 o2 o3 o4
    exact ref1_calls w3 U rb w.heap.size w3.heap.size 1 refs T m hm (by omega) hI (HZ2.out m) (by omega) o2 (by have := (check_small o4).1; omega)
  rintro e w6 ⟨rfl, hI⟩
  obtain ⟨Ar, cr, hoc, hrow⟩ := hI.oc
  rw [List.take_length] at hrow
  have hrd6 := hI.rd
  rw [List.drop_length, refsB, emp_append] at hrd6
  have HS6 := Aside0.mk (obj_grown HS3.out hI.fr hne_s)
  have z0 := cell_head hoc
  have z1 := cell_mid hoc
  have z2 := cell_last hoc
  have s0 := cell_head HS6.out
  have s1 := cell_mid HS6.out
  have s2 := cell_last HS6.out
  have s3 := free_obj HS6.out
  have HROW := Aside0.mk (Row.lower hrow HG3.out.size)
  have HRD6 := Aside0.mk hrd6
  have HG6 := Aside0.mk (grown_near HG3.out hI.fr)
  clear hI hoc hrow hrd6 k0 p0
  go_wp2
  try simp only [Exit.inBlock, Exit.then]
  rw [set3 HS6.out]
  refine bodyPost_ret (results_cell_row rfl _ _ (w.heap.size + 1) 35 #[.int .i64 1, .slice Ar refs.length cr, .slice none 0 0] (0, 0) _ rfl (setRow_heap _ _ _ _ _ _ HS6.out) Tryz.underlying35 rfl (by kernel_rfl)) rfl ?_
  have hg : w6.grownBy (w6.setRow (w.heap.size + 1) #[.int .i64 1, .slice Ar refs.length cr, .slice none 0 0]) (some (w.heap.size + 1)) := grown_setRow (World.grownBy.refl w6 _) _ _ (.inl rfl)
  exact ⟨⟨_, rfl, ⟨Ar, cr, none, 0, rfl, Row.typed HROW.out HS6.out (by decide) hg, Row.nil _ _ _ _⟩⟩, (setRow_other _ _ _ _ (Ne.symm hne_s)).trans HRD6.out, grown_far HG6.out hg (fun q hq => by injection hq with hq; omega)⟩
set_option maxHeartbeats 4000000 in
set_option maxRecDepth 100000 in
theorem rec2_calls (w : World) (rb : Nat) (pts : List Pt) (T : ByteArray) (h : RdS w rb (packB ⟨2, [], pts⟩ ++ T)) (hz : (packB ⟨2, [], pts⟩ ++ T).size ≤ 140737488351232) (hb : ∀ p ∈ pts, 0 ≤ p.bits ∧ p.bits ≤ 18446744073709551615) (hc : checkRc ⟨2, [], pts⟩ = 0) :
    Calls Tryz.prog 33 #[.pointer (some ⟨rb, 0, none⟩)] w (RecPost w rb ⟨2, [], pts⟩ T) := by
  have hO := rc_ok hc
  have hn := hO.npts
  simp only at hn
  have hpk : packB ⟨2, [], pts⟩ ++ T = ⟨#[2]⟩ ++ (numberB pts.length ++ (ptsB pts ++ T)) := by
    show ⟨#[2]⟩ ++ numberB pts.length ++ ptsB pts ++ T = _
    simp only [ByteArray.append_assoc]
  rw [hpk] at h hz
  have HOO := Aside0.mk hO
  have HBT := Aside0.mk hb
  have H := Aside0.mk h
  have HZ0 := Aside0.mk hz
  have HZ1 := Aside0.mk (show (numberB pts.length ++ (ptsB pts ++ T)).size ≤ 140737488351232 by rw [ByteArray.size_append] at hz; omega)
  have HZ2 := Aside0.mk (show ∀ m, (ptsB (pts.drop m) ++ T).size ≤ 140737488351232 by
    intro m
    have h1 := ptsB_drop_le pts m
    have h2 := HZ1.out
    rw [ByteArray.size_append, ByteArray.size_append] at h2
    rw [ByteArray.size_append]; omega)
  have HLN := Aside0.mk (show pts.length ≤ (ptsB pts ++ T).size by have := ptsB_long pts; rw [ByteArray.size_append]; omega)
  have hrb : rb < w.heap.size := (Array.getElem?_eq_some_iff.1 h).1
  have hmf : ∀ (fn : Fn) (first cap : Array Value) (w : World), (Instr.makeFunc fn first cap).run Tryz.prog w = .ok (.func fn first cap) w := fun _ _ _ _ => rfl
  have e0 : ((⟨#[2]⟩ : ByteArray)[0]'(by show 0 < 1; omega)).toNat = 2 := rfl
  have HB0 := Aside0.mk (below_alloc (below_alloc (Below.refl w.heap.size w) (.cells #[.pointer (some ⟨rb, 0, none⟩)] 84)) (.cells #[.int .i64 0, .slice none 0 0, .slice none 0 0] 35))
  have HPB := Aside0.mk (block_below' (heap_alloc_new w (.cells #[.pointer (some ⟨rb, 0, none⟩)] 84)) (below_alloc (Below.refl _ _) (.cells #[.int .i64 0, .slice none 0 0, .slice none 0 0] 35)))
  have HRES := Aside0.mk (show ((w.alloc (.cells #[.pointer (some ⟨rb, 0, none⟩)] 84)).alloc (.cells #[.int .i64 0, .slice none 0 0, .slice none 0 0] 35)).heap[w.heap.size + 1]? = some (.cells #[.int .i64 0, .slice none 0 0, .slice none 0 0] 35 (0, 0)) by
    have := heap_alloc_new (w.alloc (.cells #[.pointer (some ⟨rb, 0, none⟩)] 84)) (.cells #[.int .i64 0, .slice none 0 0, .slice none 0 0] 35)
    rwa [show (w.alloc (.cells #[.pointer (some ⟨rb, 0, none⟩)] 84)).heap.size = w.heap.size + 1 from by simp] at this)
  clear h hz hpk hO hb
  go_enter Tryz.func33, Tryz.ntmps33
  go_wp2_with fail
  refine (take_calls rb ⟨#[2]⟩ _ 1 _ (RdS.below H.out HB0.out) rfl HZ0.out).mono ?_; rintro e w3 ⟨rfl, hr3, hg3⟩
  have hne_p : w.heap.size ≠ rb := by omega
  have hne_s : w.heap.size + 1 ≠ rb := by omega
  have HR3 := Aside0.mk hr3
  have HP3 := Aside0.mk (obj_grown HPB.out hg3 hne_p)
  have HS3 := Aside0.mk (obj_grown HRES.out hg3 hne_s)
  have HG3 := Aside0.mk (grown_near (grown_below (some rb) HB0.out) hg3)
  clear hr3 hg3 HB0 HPB HRES H
  have hba := below_alloc (Below.refl w3.heap.size w3) (.cells #[.int .i64 2, .slice none 0 0, .slice none 0 0] 35)
  have p0 := ptr_cell (block_below' HP3.out hba)
  have k0 := cell_head (heap_alloc_new w3 (.cells #[.int .i64 2, .slice none 0 0, .slice none 0 0] 35))
  have HR4 := Aside0.mk (RdS.below HR3.out hba)
  have HP4 := Aside0.mk (block_below' HP3.out hba)
  have hob : w3.heap.size ≠ rb := fun he => by have := (Array.getElem?_eq_some_iff.1 HR3.out).1; omega
  clear hba
  go_wp2_with fail
  refine (many_calls rb 60 #[.pointer (some ⟨w.heap.size, 0, none⟩), .pointer (some ⟨w3.heap.size, 0, none⟩)] pts.length (ptsB pts ++ T) (fun m U => PtI w3 U rb w.heap.size w3.heap.size 2 pts T m) _ HR4.out HLN.out HZ1.out (enter_pt1 _) ?_ ?_).mono ?_
  · intro w5 hg5 hr5
    exact ⟨by rw [List.drop_zero]; exact hr5, obj_grown HP4.out hg5 hne_p, ⟨none, 0, obj_grown (heap_alloc_new w3 _) hg5 hob, Row.nil _ _ _ _⟩, grown_near (grown_below _ (below_alloc (Below.refl _ _) _)) hg5, Nat.le_refl _⟩
  · intro m U hm hI
    obtain ⟨o1, o2, o3, o4⟩ := HOO.out.pts m hm
    simp only at o1 o2 o3 o4
    have hbm := HBT.out (rdPt pts m) (by rw [rdPt_eq hm]; exact List.getElem_mem hm)
    exact pt1_calls w3 U rb w.heap.size w3.heap.size 2 pts T m hm (by omega) hI (HZ2.out m) (by omega) o2 o3 o4 hbm.1 hbm.2
  rintro e w6 ⟨rfl, hI⟩
  obtain ⟨Ar, cr, hoc, hrow⟩ := hI.oc
  rw [List.take_length] at hrow
  have hrd6 := hI.rd
  rw [List.drop_length, ptsB, emp_append] at hrd6
  have HS6 := Aside0.mk (obj_grown HS3.out hI.fr hne_s)
  have z0 := cell_head hoc
  have z1 := cell_mid hoc
  have z2 := cell_last hoc
  have s0 := cell_head HS6.out
  have s1 := cell_mid HS6.out
  have s2 := cell_last HS6.out
  have s3 := free_obj HS6.out
  have HROW := Aside0.mk (Row.lower hrow HG3.out.size)
  have HRD6 := Aside0.mk hrd6
  have HG6 := Aside0.mk (grown_near HG3.out hI.fr)
  clear hI hoc hrow hrd6 k0 p0
  go_wp2
  try simp only [Exit.inBlock, Exit.then]
  rw [set3 HS6.out]
  refine bodyPost_ret (results_cell_row rfl _ _ (w.heap.size + 1) 35 #[.int .i64 2, .slice none 0 0, .slice Ar pts.length cr] (0, 0) _ rfl (setRow_heap _ _ _ _ _ _ HS6.out) Tryz.underlying35 rfl (by kernel_rfl)) rfl ?_
  have hg : w6.grownBy (w6.setRow (w.heap.size + 1) #[.int .i64 2, .slice none 0 0, .slice Ar pts.length cr]) (some (w.heap.size + 1)) := grown_setRow (World.grownBy.refl w6 _) _ _ (.inl rfl)
  exact ⟨⟨_, rfl, ⟨none, 0, Ar, cr, rfl, Row.nil _ _ _ _, Row.typed HROW.out HS6.out (by decide) hg⟩⟩, (setRow_other _ _ _ _ (Ne.symm hne_s)).trans HRD6.out, grown_far HG6.out hg (fun q hq => by injection hq with hq; omega)⟩
theorem rec_calls (w : World) (rb : Nat) (r : Rc) (T : ByteArray) (h : RdS w rb (packB r ++ T)) (hz : (packB r ++ T).size ≤ 140737488351232) (hb : ∀ p ∈ r.pts, 0 ≤ p.bits ∧ p.bits ≤ 18446744073709551615) (hc : checkRc r = 0) :
    Calls Tryz.prog 33 #[.pointer (some ⟨rb, 0, none⟩)] w (RecPost w rb r T) := by
  have hk := (rc_ok hc).kind
  obtain ⟨kind, refs, pts⟩ := r
  simp only at hk hb
  rcases hk with ⟨rfl, rfl⟩ | ⟨rfl, rfl⟩
  · exact rec1_calls w rb refs T h hz hc
  · exact rec2_calls w rb pts T h hz hb hc
end Go.Proofs.YtgmdgaioiifgnaaGreat
