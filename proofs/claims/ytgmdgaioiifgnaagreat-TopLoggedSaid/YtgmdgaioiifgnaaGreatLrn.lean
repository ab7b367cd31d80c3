/- record.Learn. -/
import Derived.Test.YtgmdgaioiifgnaaGreatLearn
import Derived.Test.YtgmdgaioiifgnaaGreatKcheck
import Derived.Test.YtgmdgaioiifgnaaGreatPk
set_option linter.unusedVariables false
set_option linter.unusedSimpArgs false
namespace Go.Proofs.YtgmdgaioiifgnaaGreat
open Go.RowKit Go.Proofs.YtgmdgaioiifgnaaGreatW.PrintWords
theorem rc_rfok {r : Rc} (h : checkRc r = 0) (hS : ∀ x ∈ r.refs, SmallL x.ls) : ∀ x ∈ r.refs, RfOk x := by
  intro x hx
  obtain ⟨j, hj, rfl⟩ := List.getElem_of_mem hx
  refine ⟨?_, hS _ hx⟩
  have h1 := ((rc_ok h).refs j hj).2.2.2
  rw [rdRef_eq hj] at h1
  have := (check_small h1).1
  omega
def zKn : Kn := ⟨[], [], []⟩
def learnAll (k : Kn) (r : Rc) : Kn × Int :=
  if checkKn k ≠ 0 then (zKn, checkKn k) else if checkRc r ≠ 0 then (zKn, checkRc r) else if (learnKn k r).2 ≠ 0 then (zKn, (learnKn k r).2) else learnKn k r
/-- Two results, the first in a cell, the second in a slot. -/
theorem results_cell_tmp {P : Program} {fn : Func} {p q : Tmp} {ty : TypeId} (h : fn.results = #[.cell p ty, .tmp q]) (tmps : Array Value) (w : World) (g : Nat) (t : TypeId) (cs : Array Value) (fr : Nat × Nat) (d : TypeDesc)
    (hp : tmps.getD p undef = .pointer (some ⟨g, 0, none⟩)) (hg : w.heap[g]? = some (.cells cs t fr))
    (hu : P.underlying ty = some d) (hd : (match d with | .struct _ | .array _ _ => true | _ => false) = true) (hi : (P.info? ty).map (·.size) = some cs.size) :
    (results fn tmps).run P w = .ok (.tuple #[.agg cs, tmps.getD q undef]) w := by
  have hp' : tmps[p]?.getD undef = .pointer (some ⟨g, 0, none⟩) := by simpa using hp
  simp [results, h, hp', asAddr, run_loadVar_row w g t ty cs fr d hg hu hd hi]
theorem zKnOk : KnOk zKn := ⟨rfl, rfl, Nat.zero_le _, fun x hx => absurd hx List.not_mem_nil⟩
theorem zKnO (w w' : World) : KnO w w' (.slice none 0 0) (.slice none 0 0) (.slice none 0 0) zKn := ⟨Row.nil _ _ _ _, Row.nil _ _ _ _, Row.nil _ _ _ _⟩
structure LrnPost (w : World) (k2 : Kn) (err : Int) (e : Ending) (w' : World) : Prop where
  ex : ∃ a b c, e = .returned (.tuple #[.agg #[a, b, c], .int .i64 err]) ∧ KnO w w' a b c k2
  ok : KnOk k2
  below : Below w.heap.size w w'
/-- A block of three cells of one's own is written anew. -/
theorem below_set3 {w w1 : World} {g : Nat} {x y z a b c : Value} {T : TypeId} (h : Below w.heap.size w w1) (hg : w1.heap[g]? = some (.cells #[x, y, z] T (0, 0))) (hb : w.heap.size ≤ g) : Below w.heap.size w (((w1.setCell ⟨g, 0, none⟩ a).setCell ⟨g, 1, none⟩ b).setCell ⟨g, 2, none⟩ c) := by
  rw [set3 hg]
  exact h.grown (grown_setRow (World.grownBy.refl w1 (some g)) g #[a, b, c] (.inl rfl)) h.size (fun i hi => by injection hi with hi; omega)
/-- The call's own variables: what is known, the record, the result. -/
structure LB (w U : World) (a0 a1 a2 b0 b1 b2 : Value) : Prop where
  k : U.heap[w.heap.size]? = some (.cells #[a0, a1, a2] 28 (0, 0))
  r : U.heap[w.heap.size + 1]? = some (.cells #[b0, b1, b2] 35 (0, 0))
  res : U.heap[w.heap.size + 1 + 1]? = some (.cells #[.slice none 0 0, .slice none 0 0, .slice none 0 0] 28 (0, 0))
  below : Below w.heap.size w U
theorem LB.new (w : World) (a0 a1 a2 b0 b1 b2 : Value) : LB w (((w.alloc (.cells #[a0, a1, a2] 28)).alloc (.cells #[b0, b1, b2] 35)).alloc (.cells #[.slice none 0 0, .slice none 0 0, .slice none 0 0] 28)) a0 a1 a2 b0 b1 b2 := by
  have h1 : (w.alloc (.cells #[a0, a1, a2] 28)).heap.size = w.heap.size + 1 := by simp
  have h2 : ((w.alloc (.cells #[a0, a1, a2] 28)).alloc (.cells #[b0, b1, b2] 35)).heap.size = w.heap.size + 1 + 1 := by simp
  refine ⟨?_, ?_, ?_, below_alloc (below_alloc (below_alloc (Below.refl _ _) _) _) _⟩
  · exact block_below' (block_below' (heap_alloc_new w _) (below_alloc (Below.refl _ _) _)) (below_alloc (Below.refl _ _) _)
  · have := heap_alloc_new (w.alloc (.cells #[a0, a1, a2] 28)) (.cells #[b0, b1, b2] 35)
    rw [h1] at this
    exact block_below' this (below_alloc (Below.refl _ _) _)
  · have := heap_alloc_new ((w.alloc (.cells #[a0, a1, a2] 28)).alloc (.cells #[b0, b1, b2] 35)) (.cells #[.slice none 0 0, .slice none 0 0, .slice none 0 0] 28)
    rw [h2] at this
    exact this
theorem LB.to {w U V : World} {a0 a1 a2 b0 b1 b2 : Value} (h : LB w U a0 a1 a2 b0 b1 b2) (hb : Below U.heap.size U V) : LB w V a0 a1 a2 b0 b1 b2 := ⟨block_below' h.k hb, block_below' h.r hb, block_below' h.res hb, below_step h.below hb⟩
theorem free3 {w : World} {g : Nat} {x y z : Value} {T : TypeId} (h : w.heap[g]? = some (.cells #[x, y, z] T (0, 0))) (j : Nat) : w.frozen? ⟨g, j, none⟩ = false := by simp [World.frozen?, h]
theorem LB.fail {w U : World} {a0 a1 a2 b0 b1 b2 : Value} (h : LB w U a0 a1 a2 b0 b1 b2) (err : Int) : LrnPost w zKn err (.returned (.tuple #[.agg #[.slice none 0 0, .slice none 0 0, .slice none 0 0], .int .i64 err])) (U.setRow (w.heap.size + 1 + 1) #[.slice none 0 0, .slice none 0 0, .slice none 0 0]) :=
  ⟨⟨_, _, _, rfl, zKnO _ _⟩, zKnOk, h.below.grown (grown_setRow (World.grownBy.refl U (some (w.heap.size + 1 + 1))) _ _ (.inl rfl)) h.below.size (fun i hi => by injection hi with hi; omega)⟩
set_option maxHeartbeats 4000000 in
set_option maxRecDepth 100000 in
theorem lrn_calls (v u : Value) (k : Kn) (r : Rc) (w : World) (hv : KnV w v k) (hu : RcV w u r) (hk : KnOk k) (hr : ∀ x ∈ r.refs, SmallL x.ls) : Calls Tryz.prog 6 #[v, u] w (LrnPost w (learnAll k r).1 (learnAll k r).2) := by
  obtain ⟨A0, c0, A1, c1, A2, c2, rfl, l0, l1, l2, h0, h1, h2⟩ := hv
  obtain ⟨B0, d0, B1, d1, rfl, m0, m1, g0, g1⟩ := hu
  have HV := Aside0.mk (show KnV w (.agg #[.slice A0 k.refs.length c0, .slice A1 k.lasts.length c1, .slice A2 k.has.length c2]) k from ⟨A0, c0, A1, c1, A2, c2, rfl, l0, l1, l2, h0, h1, h2⟩)
  have HU := Aside0.mk (show RcV w (.agg #[.int .i64 r.kind, .slice B0 r.refs.length d0, .slice B1 r.pts.length d1]) r from ⟨B0, d0, B1, d1, rfl, m0, m1, g0, g1⟩)
  have HK := Aside0.mk hk
  have HR := Aside0.mk hr
  clear h0 h1 h2 g0 g1 hk hr
  have HLB := Aside0.mk (LB.new w (.slice A0 k.refs.length c0) (.slice A1 k.lasts.length c1) (.slice A2 k.has.length c2) (.int .i64 r.kind) (.slice B0 r.refs.length d0) (.slice B1 r.pts.length d1))
  by_cases hc : checkKn k = 0
  · have HC := Aside0.mk hc
    by_cases hd : checkRc r = 0
    · have HD := Aside0.mk hd
      have HX0 := Aside0.mk (show learnAll k r = if (learnKn k r).2 ≠ 0 then (zKn, (learnKn k r).2) else learnKn k r by rw [learnAll, if_neg (fun h => h hc), if_neg (fun h => h hd)])
      clear hc hd
      go_enter Tryz.func6, Tryz.ntmps6
      go_wp2_with fail
      refine (kcheck_calls _ k _ (HV.out.below HLB.out.below) HK.out).mono ?_; rw [HC.out]; rintro e w2 ⟨rfl, hb2⟩
      have HL2 := Aside0.mk (HLB.out.to hb2)
      clear HLB hb2
      have y0 := cell_head HL2.out.r
      have y1 := cell_mid HL2.out.r
      have y2 := cell_last HL2.out.r
      go_wp2_with fail
      refine (check_calls _ r _ (HU.out.below HL2.out.below) HR.out).mono ?_; rw [HD.out]; rintro e w3 ⟨rfl, hb3⟩
      have HL3 := Aside0.mk (HL2.out.to hb3)
      clear HL2 hb3 y0 y1 y2
      have x0 := cell_head HL3.out.k
      have x1 := cell_mid HL3.out.k
      have x2 := cell_last HL3.out.k
      go_wp2_with fail
      refine (clone_calls _ k _ (HV.out.below HL3.out.below) HK.out).mono ?_; rintro e w4 ⟨vr, vl, vh, rfl, ho, hb4⟩
      obtain ⟨Ar, cr, rfl⟩ := Kd.R_slice ho.refs
      obtain ⟨Al, cl, rfl⟩ := Kd.R_slice ho.lasts
      obtain ⟨Ah, ch, rfl⟩ := Kd.R_slice ho.has
      have HL4 := Aside0.mk (HL3.out.to hb4)
      have HO := Aside0.mk (show KnO w w4 (.slice Ar k.refs.length cr) (.slice Al k.lasts.length cl) (.slice Ah k.has.length ch) k from ⟨ho.refs.lower HL3.out.below.size, ho.lasts.lower HL3.out.below.size, ho.has.lower HL3.out.below.size⟩)
      clear ho hb4 HL3 x0 x1 x2
      have x0 := cell_head HL4.out.k
      have x1 := cell_mid HL4.out.k
      have x2 := cell_last HL4.out.k
      have x3 := free3 HL4.out.k
      have y0 := cell_head HL4.out.r
      have y1 := cell_mid HL4.out.r
      have y2 := cell_last HL4.out.r
      go_wp2_with fail
      rw [set3 HL4.out.k]
      clear x0 x1 x2 x3 y0 y1 y2
      have hg : w4.grownBy (w4.setRow w.heap.size #[.slice Ar k.refs.length cr, .slice Al k.lasts.length cl, .slice Ah k.has.length ch]) (some w.heap.size) := grown_setRow (World.grownBy.refl w4 _) _ _ (.inl rfl)
      have HSt := Aside0.mk (show LSt (w4.setRow w.heap.size #[.slice Ar k.refs.length cr, .slice Al k.lasts.length cl, .slice Ah k.has.length ch]) w (w4.setRow w.heap.size #[.slice Ar k.refs.length cr, .slice Al k.lasts.length cl, .slice Ah k.has.length ch]) w.heap.size k Ar Al Ah cr cl ch from
        ⟨Nat.le_refl _, setRow_heap _ _ _ _ _ _ HL4.out.k, Row.typed HO.out.refs HL4.out.k noKn_ref hg, Row.typed HO.out.lasts HL4.out.k noKn_int hg, Row.typed HO.out.has HL4.out.k noKn_bool hg, HL4.out.below.grown hg HL4.out.below.size (fun i hi => by injection hi with hi; omega), fun g cs _ h2 => h2⟩)
      have HRS := Aside0.mk (show (w4.setRow w.heap.size #[.slice Ar k.refs.length cr, .slice Al k.lasts.length cl, .slice Ah k.has.length ch]).heap[w.heap.size + 1 + 1]? = some (.cells #[.slice none 0 0, .slice none 0 0, .slice none 0 0] 28 (0, 0)) from (setRow_other _ _ _ _ (by omega)).trans HL4.out.res)
      clear hg HO HL4
      generalize w4.setRow w.heap.size #[.slice Ar k.refs.length cr, .slice Al k.lasts.length cl, .slice Ah k.has.length ch] = U at *
      refine (learn_calls U w U w.heap.size k r _ Ar Al Ah cr cl ch HK.out (rc_rfok HD.out HR.out) HSt.out HU.out).mono ?_; rintro e w5 ⟨rfl, hok, Ar', Al', Ah', cr', cl', ch', hS5⟩
      have HR5 := Aside0.mk (hS5.kept (w.heap.size + 1 + 1) _ (by omega) HRS.out)
      have HS5 := Aside0.mk hS5
      have HOK := Aside0.mk hok
      clear hS5 hok
      have z0 := cell_head HR5.out
      have z1 := cell_mid HR5.out
      have z2 := cell_last HR5.out
      have z3 := free3 HR5.out
      by_cases he : (learnKn k r).2 = 0
      · have HX := Aside0.mk (show learnAll k r = learnKn k r by rw [HX0.out, if_neg (fun h => h he)])
        have heb : ((learnKn k r).2 != 0) = false := by simpa using he
        have HE := Aside0.mk he
        clear he
        have x0 := HS5.out.c0
        have x1 := HS5.out.c1
        have x2 := HS5.out.c2
        go_wp2
        try simp only [Exit.inBlock, Exit.then]
        rw [set3 HR5.out]
        refine bodyPost_ret (results_cell_tmp rfl _ _ (w.heap.size + 1 + 1) 28 #[.slice Ar' (learnKn k r).1.refs.length cr', .slice Al' (learnKn k r).1.lasts.length cl', .slice Ah' (learnKn k r).1.has.length ch'] (0, 0) _ rfl (setRow_heap _ _ _ _ _ _ HR5.out) Tryz.underlying28 rfl (by kernel_rfl)) rfl ?_
        rw [HX.out]
        have hg : w5.grownBy (w5.setRow (w.heap.size + 1 + 1) #[.slice Ar' (learnKn k r).1.refs.length cr', .slice Al' (learnKn k r).1.lasts.length cl', .slice Ah' (learnKn k r).1.has.length ch']) (some (w.heap.size + 1 + 1)) := grown_setRow (World.grownBy.refl w5 _) _ _ (.inl rfl)
        exact ⟨⟨_, _, _, by rw [HE.out]; rfl, ⟨Row.typed HS5.out.refs HR5.out noKn_ref hg, Row.typed HS5.out.lasts HR5.out noKn_int hg, Row.typed HS5.out.has HR5.out noKn_bool hg⟩⟩, HOK.out, HS5.out.below.grown hg HS5.out.below.size (fun i hi => by injection hi with hi; omega)⟩
      · have HX := Aside0.mk (show learnAll k r = (zKn, (learnKn k r).2) by rw [HX0.out, if_pos he])
        have heb : ((learnKn k r).2 != 0) = true := by simpa using he
        clear he
        go_wp2
        try simp only [Exit.inBlock, Exit.then]
        rw [set3 HR5.out]
        refine bodyPost_ret (results_cell_tmp rfl _ _ (w.heap.size + 1 + 1) 28 #[.slice none 0 0, .slice none 0 0, .slice none 0 0] (0, 0) _ rfl (setRow_heap _ _ _ _ _ _ HR5.out) Tryz.underlying28 rfl (by kernel_rfl)) rfl ?_
        rw [HX.out]
        exact ⟨⟨_, _, _, rfl, zKnO _ _⟩, zKnOk, HS5.out.below.grown (grown_setRow (World.grownBy.refl w5 (some (w.heap.size + 1 + 1))) _ _ (.inl rfl)) HS5.out.below.size (fun i hi => by injection hi with hi; omega)⟩
    · have HX := Aside0.mk (show learnAll k r = (zKn, checkRc r) by rw [learnAll, if_neg (fun h => h hc), if_pos hd])
      have hdb : (checkRc r != 0) = true := by simpa using hd
      clear hc hd
      go_enter Tryz.func6, Tryz.ntmps6
      go_wp2_with fail
      refine (kcheck_calls _ k _ (HV.out.below HLB.out.below) HK.out).mono ?_; rw [HC.out]; rintro e w2 ⟨rfl, hb2⟩
      have HL2 := Aside0.mk (HLB.out.to hb2)
      clear HLB hb2
      have y0 := cell_head HL2.out.r
      have y1 := cell_mid HL2.out.r
      have y2 := cell_last HL2.out.r
      go_wp2_with fail
      refine (check_calls _ r _ (HU.out.below HL2.out.below) HR.out).mono ?_; rintro e w3 ⟨rfl, hb3⟩
      have HL3 := Aside0.mk (HL2.out.to hb3)
      clear HL2 hb3 y0 y1 y2
      have z0 := cell_head HL3.out.res
      have z1 := cell_mid HL3.out.res
      have z2 := cell_last HL3.out.res
      have z3 := free3 HL3.out.res
      go_wp2
      try simp only [Exit.inBlock, Exit.then]
      rw [set3 HL3.out.res]
      refine bodyPost_ret (results_cell_tmp rfl _ _ (w.heap.size + 1 + 1) 28 #[.slice none 0 0, .slice none 0 0, .slice none 0 0] (0, 0) _ rfl (setRow_heap _ _ _ _ _ _ HL3.out.res) Tryz.underlying28 rfl (by kernel_rfl)) rfl ?_
      rw [HX.out]
      exact HL3.out.fail _
  · have HX := Aside0.mk (show learnAll k r = (zKn, checkKn k) by rw [learnAll, if_pos hc])
    have hcb : (checkKn k != 0) = true := by simpa using hc
    have hcb2 : (checkKn k == 0) = false := by simpa using hc
    clear hc
    go_enter Tryz.func6, Tryz.ntmps6
    go_wp2_with fail
    refine (kcheck_calls _ k _ (HV.out.below HLB.out.below) HK.out).mono ?_; rintro e w2 ⟨rfl, hb2⟩
    have HL2 := Aside0.mk (HLB.out.to hb2)
    clear HLB hb2
    have z0 := cell_head HL2.out.res
    have z1 := cell_mid HL2.out.res
    have z2 := cell_last HL2.out.res
    have z3 := free3 HL2.out.res
    go_wp2
    try simp only [Exit.inBlock, Exit.then]
    rw [set3 HL2.out.res]
    refine bodyPost_ret (results_cell_tmp rfl _ _ (w.heap.size + 1 + 1) 28 #[.slice none 0 0, .slice none 0 0, .slice none 0 0] (0, 0) _ rfl (setRow_heap _ _ _ _ _ _ HL2.out.res) Tryz.underlying28 rfl (by kernel_rfl)) rfl ?_
    rw [HX.out]
    exact HL2.out.fail _
end Go.Proofs.YtgmdgaioiifgnaaGreat
