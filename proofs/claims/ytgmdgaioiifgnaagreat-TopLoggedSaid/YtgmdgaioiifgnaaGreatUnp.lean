/- record.Unpack, over what was packed. -/
import Derived.Test.YtgmdgaioiifgnaaGreatRdc
import Derived.Recover
import Derived.Defers
set_option linter.unusedVariables false
set_option linter.unusedSimpArgs false
namespace Go.Proofs.YtgmdgaioiifgnaaGreat
open Go.RowKit Go.Proofs.YtgmdgaioiifgnaaGreatW.PrintWords
set_option maxHeartbeats 1000000 in
set_option maxRecDepth 100000 in
theorem unpack1_idle (p q : Addr) (w : World) :
    CallsD Tryz.prog 32 #[.pointer (some p), .pointer (some q)] .returning w fun e u' w' => e = .returned (.tuple #[]) ∧ u' = .returning ∧ Below w.heap.size w w' := by
  refine callsD_of_wpS Tryz.func32 rfl fun c₀ cs hu => ?_
  apply wpS_seq
  apply wpS_region
  have hta : ∀ w : World, (Instr.typeAssert .nilIface 20 82 true).run Tryz.prog w = .ok (.tuple #[.agg #[], .bool false]) w := fun w => by kernel_rfl
  have hst : ∀ (a : Addr) (w : World), (storeCells a []).run Tryz.prog w = .ok () w := fun _ _ => rfl
  simp [wpOpsS, go_sem, recoverD, hu, Tryz.ntmps32, Exit.thenS, hta, Array.replicate, hst]
  apply wpS_seq
  apply wpS_region
  simp [wpOpsS, go_sem, hu, Exit.thenS]
  refine wpS_cond (t := false) (by simp [Act.eval]) ?_
  simp only [Bool.false_eq_true, if_false]
  refine wpS_of_wp (wp_skip ?_)
  have hb := below_alloc (Below.refl w.heap.size w) (.cells #[] 82)
  cases c₀
  simp_all [bodyPostS, results, Tryz.results32]
theorem row_parts {α : Type} {d : Kd α} {e : Nat} {w0 w : World} {A : Option Addr} {c : Nat} {xs : List α} (h : Row d e w0 w (.slice A xs.length c) xs) : xs.length ≤ c ∧ d.C w A xs.length xs := by
  obtain ⟨A', c', e, h1, h2⟩ := Row.reads h
  injection e with e1 e2 e3
  subst e1 e3
  exact ⟨h1, h2⟩
theorem RcO.rcv {w w' : World} {v : Value} {r : Rc} (h : RcO w w' v r) : RcV w' v r := by
  obtain ⟨A0, c0, A1, c1, e, r0, r1⟩ := h.ex
  exact ⟨A0, c0, A1, c1, e, (row_parts r0).1, (row_parts r1).1, (row_parts r0).2, (row_parts r1).2⟩
theorem ptr_cell2 {w : World} {g : Nat} {x : Value} {T : TypeId} {fr : Nat × Nat} (h : w.heap[g]? = some (.cells #[x] T fr)) : w.cell? ⟨g, 0, none⟩ = some x := by rw [cell_of_row w g 0 _ T fr h]; rfl
theorem run_loadVar_one {P : Program} (w : World) (g : Nat) (t ty : TypeId) (v : Value) (fr : Nat × Nat) (d : TypeDesc) (hg : w.heap[g]? = some (.cells #[v] t fr)) (hu : P.underlying ty = some d)
    (hd : (match d with | .struct _ | .array _ _ => true | _ => false) = false) : (loadVar ty ⟨g, 0, none⟩).run P w = .ok v w := by
  have hagg : (isAgg ty).run P w = .ok false w := by
    unfold isAgg
    rw [Sem.run_bind, run_underlying hu w]
    cases d <;> simp_all
  have hc := ptr_cell2 hg
  simp [loadVar, Sem.run_bind, hagg, go_sem, hc]
/-- Two results in cells: a row and one value. -/
theorem results_cell_cell {P : Program} {fn : Func} {p q : Tmp} {ty ty2 : TypeId} (h : fn.results = #[.cell p ty, .cell q ty2]) (tmps : Array Value) (w : World) (g g2 : Nat) (t t2 : TypeId) (cs : Array Value) (v : Value) (fr fr2 : Nat × Nat) (d d2 : TypeDesc)
    (hp : tmps.getD p undef = .pointer (some ⟨g, 0, none⟩)) (hg : w.heap[g]? = some (.cells cs t fr))
    (hu : P.underlying ty = some d) (hd : (match d with | .struct _ | .array _ _ => true | _ => false) = true) (hi : (P.info? ty).map (·.size) = some cs.size)
    (hp2 : tmps.getD q undef = .pointer (some ⟨g2, 0, none⟩)) (hg2 : w.heap[g2]? = some (.cells #[v] t2 fr2)) (hu2 : P.underlying ty2 = some d2) (hd2 : (match d2 with | .struct _ | .array _ _ => true | _ => false) = false) :
    (results fn tmps).run P w = .ok (.tuple #[.agg cs, v]) w := by
  have hp' : tmps[p]?.getD undef = .pointer (some ⟨g, 0, none⟩) := by simpa using hp
  have hp2' : tmps[q]?.getD undef = .pointer (some ⟨g2, 0, none⟩) := by simpa using hp2
  simp [results, h, hp', hp2', asAddr, run_loadVar_row w g t ty cs fr d hg hu hd hi, run_loadVar_one w g2 t2 ty2 v fr2 d2 hg2 hu2 hd2]
structure UnpPost (w : World) (r : Rc) (e : Ending) (w' : World) : Prop where
  ex : ∃ v, e = .returned (.tuple #[v, .int .i64 0]) ∧ RcO w w' v r
  below : Below w.heap.size w w'
set_option maxHeartbeats 4000000 in
set_option maxRecDepth 100000 in
theorem unpack_calls (r : Rc) (w : World) (hz : (packB r).size ≤ 140737488351232) (hb : ∀ p ∈ r.pts, 0 ≤ p.bits ∧ p.bits ≤ 18446744073709551615) (hc : checkRc r = 0) (hS : ∀ x ∈ r.refs, SmallL x.ls) :
    Calls Tryz.prog 14 #[.string (packB r)] w (UnpPost w r) := by
  have hmf : ∀ (fn : Fn) (first cap : Array Value) (w : World), (Instr.makeFunc fn first cap).run Tryz.prog w = .ok (.func fn first cap) w := fun _ _ _ _ => rfl
  have HC := Aside0.mk hc
  have HS := Aside0.mk hS
  have HZ := Aside0.mk hz
  have HB := Aside0.mk hb
  clear hc hS hz hb
  have hBW := below_alloc (below_alloc (below_alloc (Below.refl w.heap.size w) (.cells #[.int .i64 0, .slice none 0 0, .slice none 0 0] 35)) (.cells #[.int .i64 0] 30)) (.cells #[.string (packB r)] 86)
  have s1 : (w.alloc (.cells #[.int .i64 0, .slice none 0 0, .slice none 0 0] 35)).heap.size = w.heap.size + 1 := by simp
  have s2 : ((w.alloc (.cells #[.int .i64 0, .slice none 0 0, .slice none 0 0] 35)).alloc (.cells #[.int .i64 0] 30)).heap.size = w.heap.size + 1 + 1 := by simp
  have hOUT := block_below' (block_below' (heap_alloc_new w (.cells #[.int .i64 0, .slice none 0 0, .slice none 0 0] 35)) (below_alloc (Below.refl _ _) (.cells #[.int .i64 0] 30))) (below_alloc (Below.refl _ _) (.cells #[.string (packB r)] 86))
  have hEB := heap_alloc_new (w.alloc (.cells #[.int .i64 0, .slice none 0 0, .slice none 0 0] 35)) (.cells #[.int .i64 0] 30)
  rw [s1] at hEB
  have hEB2 := block_below' hEB (below_alloc (Below.refl _ _) (.cells #[.string (packB r)] 86))
  have hRB := heap_alloc_new ((w.alloc (.cells #[.int .i64 0, .slice none 0 0, .slice none 0 0] 35)).alloc (.cells #[.int .i64 0] 30)) (.cells #[.string (packB r)] 86)
  rw [s2] at hRB
  have HBW := Aside0.mk hBW
  have HOUT := Aside0.mk hOUT
  have HEB := Aside0.mk hEB2
  have HRB := Aside0.mk hRB
  clear hBW hOUT hEB hEB2 hRB s1 s2
  go_enter_defers Tryz.func14, Tryz.ntmps14
  go_wp2_with fail
  generalize ((w.alloc (.cells #[.int .i64 0, .slice none 0 0, .slice none 0 0] 35)).alloc (.cells #[.int .i64 0] 30)).alloc (.cells #[.string (packB r)] 86) = W at *
  refine (rec_calls W (w.heap.size + 1 + 1) r ⟨#[]⟩ (by rw [append_emp]; exact HRB.out) (by rw [append_emp]; exact HZ.out) HB.out HC.out).mono ?_; rintro e w2 ⟨⟨v, rfl, ⟨A0, c0, A1, c1, rfl, r0, r1⟩⟩, hrd, hfr⟩
  have o1 := obj_grown HOUT.out hfr (by omega)
  have e1 := obj_grown HEB.out hfr (by omega)
  have hg : w2.grownBy (w2.setRow w.heap.size #[.int .i64 r.kind, .slice A0 r.refs.length c0, .slice A1 r.pts.length c1]) (some w.heap.size) := grown_setRow (World.grownBy.refl w2 _) _ _ (.inl rfl)
  have R0 := Aside0.mk (Row.lower (w2 := w) (Row.typed r0 o1 (by decide) hg) HBW.out.size)
  have R1 := Aside0.mk (Row.lower (w2 := w) (Row.typed r1 o1 (by decide) hg) HBW.out.size)
  have O1 := Aside0.mk o1
  have O2 := Aside0.mk (setRow_heap _ _ _ #[.int .i64 r.kind, .slice A0 r.refs.length c0, .slice A1 r.pts.length c1] _ _ o1)
  have E2 := Aside0.mk ((setRow_other w2 w.heap.size (w.heap.size + 1) #[.int .i64 r.kind, .slice A0 r.refs.length c0, .slice A1 r.pts.length c1] (by omega)).trans e1)
  have D2 := Aside0.mk (RdS.cell (show RdS (w2.setRow w.heap.size #[.int .i64 r.kind, .slice A0 r.refs.length c0, .slice A1 r.pts.length c1]) (w.heap.size + 1 + 1) ⟨#[]⟩ from (setRow_other w2 w.heap.size (w.heap.size + 1 + 1) _ (by omega)).trans hrd))
  have B2 := Aside0.mk (show Below w.heap.size w (w2.setRow w.heap.size #[.int .i64 r.kind, .slice A0 r.refs.length c0, .slice A1 r.pts.length c1]) from (HBW.out.grown hfr HBW.out.size (fun i hi => by injection hi with hi; omega)).grown hg (Nat.le_trans HBW.out.size hfr.size) (fun i hi => by injection hi with hi; omega))
  have x0 := cell_head o1
  have x1 := cell_mid o1
  have x2 := cell_last o1
  have x3 := free_obj o1
  have d1 := RdS.cell hrd
  clear r0 r1 hrd hfr o1 e1 hg
  go_wp2_with fail
  rw [set3 O1.out]
  have HR2 := Aside0.mk (show RcV (w2.setRow w.heap.size #[.int .i64 r.kind, .slice A0 r.refs.length c0, .slice A1 r.pts.length c1]) (.agg #[.int .i64 r.kind, .slice A0 r.refs.length c0, .slice A1 r.pts.length c1]) r from RcO.rcv ⟨A0, c0, A1, c1, rfl, R0.out, R1.out⟩)
  clear x0 x1 x2 x3 d1 O1 D2
  generalize w2.setRow w.heap.size #[.int .i64 r.kind, .slice A0 r.refs.length c0, .slice A1 r.pts.length c1] = U at *
  refine (check_calls _ r U HR2.out HS.out).mono ?_; rw [HC.out]; rintro e w3 ⟨rfl, hb3⟩
  have O3 := Aside0.mk (block_below' O2.out hb3)
  have E3 := Aside0.mk (block_below' E2.out hb3)
  have B3 := Aside0.mk (below_step B2.out hb3)
  have x0 := cell_head O3.out
  have x1 := cell_mid O3.out
  have x2 := cell_last O3.out
  have x3 := free_obj O3.out
  have y0 := ptr_cell E3.out
  have y1 := free_obj E3.out
  have HB3 := Aside0.mk hb3
  clear hb3
  go_wp2_with fail
  rw [set3 O3.out]
  have hg3 : w3.grownBy (w3.setRow w.heap.size #[.int .i64 r.kind, .slice A0 r.refs.length c0, .slice A1 r.pts.length c1]) (some w.heap.size) := grown_setRow (World.grownBy.refl w3 _) _ _ (.inl rfl)
  have E4 := (setRow_other w3 w.heap.size (w.heap.size + 1) #[.int .i64 r.kind, .slice A0 r.refs.length c0, .slice A1 r.pts.length c1] (by omega)).trans E3.out
  refine leaves_cons (f := 32) (args := #[.pointer (some ⟨w.heap.size, 0, none⟩), .pointer (some ⟨w.heap.size + 1, 0, none⟩)]) (by simp) (by simp [go_sem]) ?_
  refine (unpack1_idle _ _ _).mono ?_
  rw [setCell_eq_setRow _ _ 0 _ _ _ _ E4]
  have E5 := setRow_heap _ _ _ #[.int .i64 0] _ _ E4
  have O5 := (setRow_other (w3.setRow w.heap.size #[.int .i64 r.kind, .slice A0 r.refs.length c0, .slice A1 r.pts.length c1]) (w.heap.size + 1) w.heap.size #[.int .i64 0] (by omega)).trans (setRow_heap _ _ _ #[.int .i64 r.kind, .slice A0 r.refs.length c0, .slice A1 r.pts.length c1] _ _ O3.out)
  have hg5 : (w3.setRow w.heap.size #[.int .i64 r.kind, .slice A0 r.refs.length c0, .slice A1 r.pts.length c1]).grownBy ((w3.setRow w.heap.size #[.int .i64 r.kind, .slice A0 r.refs.length c0, .slice A1 r.pts.length c1]).setRow (w.heap.size + 1) #[.int .i64 0]) (some (w.heap.size + 1)) := grown_setRow (World.grownBy.refl _ _) _ _ (.inl rfl)
  have B4 : Below w.heap.size w (w3.setRow w.heap.size #[.int .i64 r.kind, .slice A0 r.refs.length c0, .slice A1 r.pts.length c1]) := B3.out.grown hg3 B3.out.size (fun i hi => by injection hi with hi; omega)
  have B5 := B4.grown hg5 (Nat.le_trans B3.out.size hg3.size) (fun i hi => by injection hi with hi; omega)
  rintro e u' w'' ⟨rfl, rfl, hb⟩
  refine ⟨_, results_cell_cell rfl _ _ w.heap.size (w.heap.size + 1) 35 30 #[.int .i64 r.kind, .slice A0 r.refs.length c0, .slice A1 r.pts.length c1] (.int .i64 0) (0, 0) (0, 0) _ _ rfl (block_below' O5 hb) Tryz.underlying35 rfl (by kernel_rfl) rfl (block_below' E5 hb) Tryz.underlying30 rfl, ?_⟩
  refine ⟨⟨_, rfl, ⟨A0, c0, A1, c1, rfl, ?_, ?_⟩⟩, below_step B5 hb⟩
  · exact Row.below (Row.typed (Row.typed (Row.below R0.out HB3.out) O3.out (by decide) hg3) E4 (by decide) hg5) hb
  · exact Row.below (Row.typed (Row.typed (Row.below R1.out HB3.out) O3.out (by decide) hg3) E4 (by decide) hg5) hb
end Go.Proofs.YtgmdgaioiifgnaaGreat
