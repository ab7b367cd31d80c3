/- sync.Once.Do over (*strings.Replacer).buildOnce; (*strings.Replacer).Replace; strings.NewReplacer: at the six texts of labels.Text. -/
import Derived.Test.YtgmdgaioiifgnaaGreatBld
import Derived.Tactics2
import Derived.Defers
import Derived.Laws.Pointers
import Derived.Laws.LoneSync
import Derived.RegionTactic
import Derived.RegionCalls
set_option linter.unusedVariables false
set_option linter.unusedSimpArgs false
namespace Go.Proofs.YtgmdgaioiifgnaaGreat
open Go.RowKit Go.Proofs.YtgmdgaioiifgnaaGreatW.PrintWords
theorem raceDisable (w : World) : (callFunc 122 #[]).run Tryz.prog w = .ok (.value (.tuple #[])) w := run_call_mark0 Tryz.func122 (by kernel_rfl) (by kernel_rfl) (by kernel_rfl) .disable (by kernel_rfl) w
theorem raceEnable (w : World) : (callFunc 124 #[]).run Tryz.prog w = .ok (.value (.tuple #[])) w := run_call_mark0 Tryz.func124 (by kernel_rfl) (by kernel_rfl) (by kernel_rfl) .enable (by kernel_rfl) w
theorem raceAcquire (a : Addr) (w : World) : (callFunc 125 #[.pointer (some a)]).run Tryz.prog w = .ok (.value (.tuple #[])) w := run_call_marked Tryz.func125 (by kernel_rfl) (by kernel_rfl) (by kernel_rfl) .acquire (by kernel_rfl) a w
theorem raceReleaseMerge (a : Addr) (w : World) : (callFunc 127 #[.pointer (some a)]).run Tryz.prog w = .ok (.value (.tuple #[])) w := run_call_marked Tryz.func127 (by kernel_rfl) (by kernel_rfl) (by kernel_rfl) .releaseMerge (by kernel_rfl) a w
set_option maxHeartbeats 1600000 in
set_option maxRecDepth 100000 in
theorem store_deferred (a : Addr) (x : Value) (u : FrameMode) (w : World) (hc : w.cell? a = some x) (hz : w.frozen? a = false) :
    CallsD Tryz.prog 113 #[.pointer (some a), .bool true] u w fun e u' w' => u' = u ∧ (e = .returned (.tuple #[]) ∧ w' = w.drew.setCell a (.int .u32 1)) := by
  have hc' : w.drew.cell? a = some x := by go_simp
  have hz' : w.drew.frozen? a = false := by go_simp
  have hst := run_call_store (P := Tryz.prog) Tryz.func118 (by kernel_rfl) (by kernel_rfl) (by kernel_rfl) (by kernel_rfl) (k := .u32) (y := 1) hc' hz'
  go_enter_d Tryz.func113, Tryz.ntmps113
  go_wp2
  go_region_calls
  all_goals (go_end0; exact ⟨rfl, rfl⟩)
set_option maxHeartbeats 1600000 in
set_option maxRecDepth 100000 in
theorem unlock_deferred (a : Addr) (u : FrameMode) (w : World) (hc : w.cell? a = some (.int .i32 1)) (hz : w.frozen? a = false) :
    CallsD Tryz.prog 112 #[.pointer (some a)] u w fun e u' w' => u' = u ∧ (e = .returned (.tuple #[]) ∧ w' = w.setCell a (.int .i32 0)) := by
  have hd := raceDisable
  have he := raceEnable
  have hr := raceReleaseMerge
  have hadd := run_call_add (P := Tryz.prog) Tryz.func128 (by kernel_rfl) (by kernel_rfl) (by kernel_rfl) .i32 (by kernel_rfl) (y := -1) (s := 0) hc hz (by simp [go_sem]; rfl)
  have hcv := run_convert_to_unsafe (P := Tryz.prog) (src := 197) (dst := 130) Tryz.underlying197 Tryz.underlying130 (by kernel_rfl) hc
  go_enter_d Tryz.func112, Tryz.ntmps112
  go_wp2
  go_end0
  go_wp2
set_option maxHeartbeats 1600000 in
set_option maxRecDepth 100000 in
theorem lock_free (a : Addr) (w : World) (hc : w.cell? a = some (.int .i32 0)) (hz : w.frozen? a = false) :
    Calls Tryz.prog 111 #[.pointer (some a)] w fun e w' => e = .returned (.tuple #[]) ∧ w' = w.setCell a (.int .i32 1) := by
  have hd := raceDisable
  have he := raceEnable
  have ha := raceAcquire
  have hcas := run_call_cas_hit (P := Tryz.prog) Tryz.func123 (by kernel_rfl) (by kernel_rfl) (by kernel_rfl) .i32 (by kernel_rfl) (y := 1) hc hz
  have hc' : (w.setCell a (.int .i32 1)).cell? a = some (.int .i32 1) := World.cell?_setCell_same w a _ hc
  have hcv := run_convert_to_unsafe (P := Tryz.prog) (src := 197) (dst := 130) Tryz.underlying197 Tryz.underlying130 (by kernel_rfl) hc'
  go_enter Tryz.func111, Tryz.ntmps111
  go_wp2
  first | go_end0 | (simp only [Exit.inBlock, Exit.then]; refine bodyPost_ret (results_none rfl _ _ _) rfl ?_) | refine bodyPost_ret (results_none rfl _ _ _) rfl ?_
  go_wp2
/-- A replacer's cells: done, the lock's state, its second word, what it was built to, and of what. -/
def RC (w : World) (rb : Nat) (d s : Int) (x r o : Value) : Prop := w.heap[rb]? = some (.cells #[.int .u32 d, .int .i32 s, x, r, o] 154 (0, 0))
section
variable {w w1 : World} {rb : Nat} {d s : Int} {x r o : Value}
theorem RC.c0 (h : RC w rb d s x r o) : w.cell? ⟨rb, 0, none⟩ = some (.int .u32 d) := by rw [row_cell h]; rfl
theorem RC.c1 (h : RC w rb d s x r o) : w.cell? ⟨rb, 1, none⟩ = some (.int .i32 s) := by rw [row_cell h]; rfl
theorem RC.c3 (h : RC w rb d s x r o) : w.cell? ⟨rb, 3, none⟩ = some r := by rw [row_cell h]; rfl
theorem RC.c4 (h : RC w rb d s x r o) : w.cell? ⟨rb, 4, none⟩ = some o := by rw [row_cell h]; rfl
theorem RC.free (h : RC w rb d s x r o) (j : Nat) : w.frozen? ⟨rb, j, none⟩ = false := by simp [World.frozen?, show w.heap[rb]? = _ from h]
theorem RC.below (h : RC w rb d s x r o) (hb : Below w.heap.size w w1) : RC w1 rb d s x r o := (hb.block _ (Array.getElem?_eq_some_iff.1 h).1).trans h
theorem RC.grown {cs : Array Value} (h : w.heap[rb]? = some (.cells cs 154 (0, 0))) (j : Nat) (u : Value) : w.grownBy (w.setCell ⟨rb, j, none⟩ u) (some rb) := by
  rw [setCell_eq_setRow w rb j _ _ _ _ h]
  exact grown_setRow (World.grownBy.refl w (some rb)) rb _ (.inl rfl)
theorem RC.s0 (h : RC w rb d s x r o) (d' : Int) : RC (w.setCell ⟨rb, 0, none⟩ (.int .u32 d')) rb d' s x r o := by
  rw [setCell_eq_setRow w rb 0 _ _ _ _ h]; exact setRow_heap _ _ _ _ _ _ h
theorem RC.s1 (h : RC w rb d s x r o) (s' : Int) : RC (w.setCell ⟨rb, 1, none⟩ (.int .i32 s')) rb d s' x r o := by
  rw [setCell_eq_setRow w rb 1 _ _ _ _ h]; exact setRow_heap _ _ _ _ _ _ h
theorem RC.s3 (h : RC w rb d s x r o) (r' : Value) : RC (w.setCell ⟨rb, 3, none⟩ r') rb d s x r' o := by
  rw [setCell_eq_setRow w rb 3 _ _ _ _ h]; exact setRow_heap _ _ _ _ _ _ h
theorem RC.s4 (h : RC w rb d s x r o) (o' : Value) : RC (w.setCell ⟨rb, 4, none⟩ o') rb d s x r o' := by
  rw [setCell_eq_setRow w rb 4 _ _ _ _ h]; exact setRow_heap _ _ _ _ _ _ h
end
/-- The six texts. -/
structure Six (w : World) (ob : Nat) : Prop where
  t : Kd.string.C w (some ⟨ob, 0, none⟩) 6 [⟨#[92]⟩, ⟨#[92, 92]⟩, ⟨#[34]⟩, ⟨#[92, 34]⟩, ⟨#[10]⟩, ⟨#[92, 110]⟩]
theorem Six.at_ {w : World} {ob : Nat} (h : Six w ob) (j : Nat) (hj : j < 6) : w.cell? ⟨ob, j, none⟩ = some (.string (rdOf ByteArray.empty [⟨#[92]⟩, ⟨#[92, 92]⟩, ⟨#[34]⟩, ⟨#[92, 34]⟩, ⟨#[10]⟩, ⟨#[92, 110]⟩] j)) := by
  obtain ⟨ad, he, hc⟩ := Kd.at_string h.t j (by omega) (by show (j : Int) < 6; omega)
  injection he with he
  subst he
  rw [Int.toNat_natCast] at hc
  rw [← hc, Addr.add_lit, Nat.zero_add]
theorem Six.far {w w1 : World} {ob rb : Nat} {cs : Array Value} (h : Six w ob) (hb : w.heap[rb]? = some (.cells cs 154 (0, 0))) (hg : w.grownBy w1 (some rb)) (hne : ob ≠ rb := by assumption) : Six w1 ob := by
  refine ⟨h.t.1, h.t.2.1, fun hn => ?_⟩
  obtain ⟨ad, he, hc⟩ := h.t.2.2 hn
  injection he with he
  subst he
  refine ⟨_, rfl, fun j p hj => ?_⟩
  obtain ⟨cs, hl, hK, hcell⟩ := hc j p hj
  refine ⟨cs, hl, hK, fun i u hu => ?_⟩
  have hcu := hcell i u hu
  rw [Addr.add_lit] at hcu ⊢
  have hlt : ob < w.heap.size := by
    rcases Nat.lt_or_ge ob w.heap.size with h1 | h1
    · exact h1
    · simp only [World.cell?, Array.getElem?_eq_none h1] at hcu
      cases hcu
  exact (World.cell?_of_block (a := ⟨ob, _, none⟩) (hg.block ob hlt (fun he => hne (Option.some.inj he)))).trans hcu
theorem grown_trans {w w1 w2 : World} {rb : Nat} (h : w.grownBy w1 (some rb)) (h2 : w1.grownBy w2 (some rb)) : w.grownBy w2 (some rb) :=
  ⟨h2.os.trans h.os, h2.tape.trans h.tape, h2.output.trans h.output, Nat.le_trans h.size h2.size, fun k hk hr => (h2.block k (Nat.lt_of_lt_of_le hk h.size) hr).trans (h.block k hk hr)⟩
theorem grown_below {w w1 : World} (rb : Option Nat) (h : Below w.heap.size w w1) : w.grownBy w1 rb := ⟨h.os, h.tape, h.output, h.size, fun k hk _ => h.block k hk⟩
def BuiltPost (w : World) (rb : Nat) (d s : Int) (x : Value) (w' : World) : Prop :=
  ∃ (wx : World) (bb : Nat) (v : Value), RC w' rb d s x (.iface 182 (.pointer (some ⟨bb, 0, none⟩))) (.slice none 0 0) ∧ BSc wx w' bb v [⟨#[10]⟩, ⟨#[34]⟩, ⟨#[92]⟩] 3 ∧ w.grownBy w' (some rb)
set_option maxHeartbeats 1600000 in
set_option maxRecDepth 100000 in
theorem buildOnce_calls (rb ob c : Nat) (d s : Int) (x r : Value) (w : World) (h : RC w rb d s x r (.slice (some ⟨ob, 0, none⟩) 6 c)) (h6 : Six w ob) :
    Calls Tryz.prog 91 #[.pointer (some ⟨rb, 0, none⟩)] w fun e w' => e = .returned (.tuple #[]) ∧ BuiltPost w rb d s x w' := by
  have H := Aside0.mk h
  have H6 := Aside0.mk h6
  clear h h6
  go_enter Tryz.func91, Tryz.ntmps91
  go_wp2_with (go_at_call 105; refine (build_calls rb ob c _ H.out.c4 (H6.out.at_ 0 (by decide)) (H6.out.at_ 1 (by decide)) (H6.out.at_ 2 (by decide)) (H6.out.at_ 3 (by decide)) (H6.out.at_ 4 (by decide)) (H6.out.at_ 5 (by decide))).mono ?_; rintro e w1 ⟨bb, v, rfl, hB, hb⟩; have R1 := Aside0.mk (H.out.below hb); have q3 := R1.out.c3; have q4 := R1.out.c4; have f3 := R1.out.free 3; have f4 := R1.out.free 4; have R2 := Aside0.mk (R1.out.s3 (.iface 182 (.pointer (some ⟨bb, 0, none⟩)))); have R3 := Aside0.mk (R2.out.s4 (.slice none 0 0)); have G := Aside0.mk (grown_trans (RC.grown R1.out 3 (.iface 182 (.pointer (some ⟨bb, 0, none⟩)))) (RC.grown R2.out 4 (.slice none 0 0))); have GB := Aside0.mk (grown_trans (grown_below _ hb) G.out); have B3 := Aside0.mk (hB.far R1.out G.out); clear hB hb)
  go_end0
  exact ⟨rfl, w, bb, v, R3.out, B3.out, GB.out⟩
set_option maxHeartbeats 1600000 in
set_option maxRecDepth 100000 in
theorem slow_calls (rb ob c : Nat) (x r : Value) (w : World) (h : RC w rb 0 0 x r (.slice (some ⟨ob, 0, none⟩) 6 c)) (h6 : Six w ob) (hne : ob ≠ rb) :
    Calls Tryz.prog 104 #[.pointer (some ⟨rb, 0, none⟩), .func (.func 91) #[.pointer (some ⟨rb, 0, none⟩)] #[]] w fun e w' => e = .returned (.tuple #[]) ∧ BuiltPost w rb 1 0 x w' := by
  have H := Aside0.mk h
  have H1 := Aside0.mk (h.s1 1)
  have G1 := Aside0.mk (RC.grown h 1 (.int .i32 1))
  have H6 := Aside0.mk (h6.far (show w.heap[rb]? = _ from h) G1.out)
  have hl := run_call_load (P := Tryz.prog) Tryz.func110 (by kernel_rfl) (by kernel_rfl) (by kernel_rfl) .u32 (by kernel_rfl) H1.out.c0
  have hnot : ∀ (x : Bool) (w : World), (Op.unary .not (.bool x)).run Tryz.prog w = .ok (.bool (!x)) w := fun _ _ => rfl
  clear h h6
  go_enter_defers Tryz.func104, Tryz.ntmps104
  go_wp2_with (first | (go_at_call 111; refine (lock_free ⟨rb, 1, none⟩ _ H.out.c1 (H.out.free 1)).mono ?_; rintro e w' ⟨rfl, rfl⟩) | (go_at_call 103; go_in) | (go_at_call 91; refine (buildOnce_calls rb ob c 0 1 x r _ H1.out H6.out).mono ?_; rintro e w2 ⟨rfl, hB⟩; have HB := Aside0.mk hB; clear hB))
  obtain ⟨wx, bb, v, R2, B2, G2⟩ := HB.out
  have C0 := R2.c0
  have F0 := R2.free 0
  have HR3 : RC w2.drew rb 0 1 x (.iface 182 (.pointer (some ⟨bb, 0, none⟩))) (.slice none 0 0) := R2.below (below_drew (Below.refl _ _))
  have R3 := HR3.s0 1
  have C1 := R3.c1
  have F1 := R3.free 1
  have R4 := R3.s1 0
  have G3 : w2.grownBy w2.drew (some rb) := grown_below _ (below_drew (Below.refl _ _))
  have G4 := RC.grown HR3 0 (.int .u32 1)
  have G5 := RC.grown R3 1 (.int .i32 0)
  have G345 := grown_trans G3 (grown_trans G4 G5)
  have FIN := Aside0.mk (show BuiltPost w rb 1 0 x ((w2.drew.setCell ⟨rb, 0, none⟩ (.int .u32 1)).setCell ⟨rb, 1, none⟩ (.int .i32 0)) from ⟨wx, bb, v, R4, B2.far R2 G345, grown_trans G1.out (grown_trans G2 G345)⟩)
  have FC0 := Aside0.mk C0
  have FF0 := Aside0.mk F0
  have FC1 := Aside0.mk C1
  have FF1 := Aside0.mk F1
  clear R2 B2 G2 C0 F0 HR3 R3 C1 F1 R4 G3 G4 G5 G345 HB hl
  refine leaves_cons (f := 113) (args := #[.pointer (some ⟨rb, 0, none⟩), .bool true]) (by simp) (by simp [go_sem]) ?_
  refine (store_deferred ⟨rb, 0, none⟩ (.int .u32 0) .returning _ FC0.out FF0.out).mono ?_
  rintro e u' w'' ⟨rfl, rfl, rfl⟩
  refine leaves_cons (f := 112) (args := #[.pointer (some ⟨rb, 1, none⟩)]) (by simp [settle]) (by simp [go_sem]) ?_
  refine (unlock_deferred ⟨rb, 1, none⟩ _ _ FC1.out FF1.out).mono ?_
  rintro e u' w'' ⟨rfl, rfl, rfl⟩
  have := FIN.out
  simpa [Leaves, settle, results, Tryz.results104] using this
set_option maxHeartbeats 1600000 in
set_option maxRecDepth 100000 in
theorem do_calls (rb ob c : Nat) (x r : Value) (w : World) (h : RC w rb 0 0 x r (.slice (some ⟨ob, 0, none⟩) 6 c)) (h6 : Six w ob) (hne : ob ≠ rb) :
    Calls Tryz.prog 90 #[.pointer (some ⟨rb, 0, none⟩), .func (.func 91) #[.pointer (some ⟨rb, 0, none⟩)] #[]] w fun e w' => e = .returned (.tuple #[]) ∧ BuiltPost w rb 1 0 x w' := by
  have hl := run_call_load (P := Tryz.prog) Tryz.func110 (by kernel_rfl) (by kernel_rfl) (by kernel_rfl) .u32 (by kernel_rfl) h.c0
  have hnot : ∀ (x : Bool) (w : World), (Op.unary .not (.bool x)).run Tryz.prog w = .ok (.bool (!x)) w := fun _ _ => rfl
  have H := Aside0.mk h
  have H6 := Aside0.mk h6
  clear h h6
  go_enter Tryz.func90, Tryz.ntmps90
  go_wp2_with (first | (go_at_call 104; refine (slow_calls rb ob c x r _ H.out H6.out hne).mono ?_; rintro e w2 ⟨rfl, hB⟩; have HB := Aside0.mk hB; clear hB) | (go_at_call 103; go_in))
  go_end0
  exact ⟨rfl, HB.out⟩
set_option maxHeartbeats 1600000 in
set_option maxRecDepth 100000 in
/-- (*strings.Replacer).Replace, the replacer fresh. -/
theorem replace_calls (rb ob c : Nat) (x r : Value) (s : ByteArray) (w : World) (h : RC w rb 0 0 x r (.slice (some ⟨ob, 0, none⟩) 6 c)) (h6 : Six w ob) (hne : ob ≠ rb) (hs : s.size ≤ 35184372088832) :
    Calls Tryz.prog 65 #[.pointer (some ⟨rb, 0, none⟩), .string s] w fun e w' => e = .returned (.string (escS s)) ∧ w.grownBy w' (some rb) := by
  have H := Aside0.mk h
  have H6 := Aside0.mk h6
  have hmf : ∀ (fn : Fn) (first cap : Array Value) (w : World), (Instr.makeFunc fn first cap).run Tryz.prog w = .ok (.func fn first cap) w := fun _ _ _ _ => rfl
  clear h h6
  go_enter Tryz.func65, Tryz.ntmps65
  go_wp2_with (go_at_call 90; refine (do_calls rb ob c x r _ H.out H6.out hne).mono ?_; rintro e w2 ⟨rfl, wx, bb, v, hR, hB, hG⟩; have R2 := Aside0.mk hR; have B2 := Aside0.mk hB; have G2 := Aside0.mk hG; have q3 := hR.c3; clear hR hB hG)
  refine (bsrReplace_calls s bb w2 hs B2.out.done).mono ?_
  rintro e w3 ⟨rfl, hb⟩
  have HG := Aside0.mk (grown_trans G2.out (grown_below _ hb))
  clear hb q3
  go_wp2_with fail
  go_ret
  exact ⟨rfl, HG.out⟩
theorem row_six {w1 : World} {v : Value} {base : Nat} (h : Kd.string.R 9 w1 base (fun _ => True) v ([] ++ [⟨#[92]⟩, ⟨#[92, 92]⟩, ⟨#[34]⟩, ⟨#[92, 34]⟩, ⟨#[10]⟩, ⟨#[92, 110]⟩])) : ∃ ob cap, v = .slice (some ⟨ob, 0, none⟩) 6 cap ∧ ob < w1.heap.size ∧ Kd.string.C w1 (some ⟨ob, 0, none⟩) 6 [⟨#[92]⟩, ⟨#[92, 92]⟩, ⟨#[34]⟩, ⟨#[92, 34]⟩, ⟨#[10]⟩, ⟨#[92, 110]⟩] := by
  obtain ⟨inner, ho⟩ := Kd.R_own h
  obtain ⟨A, c, he, _, hC⟩ := Kd.R_reads h
  rcases ho.2 with ⟨_, h0⟩ | ⟨g, cap, cur, hv, _, hh, _⟩
  · exact absurd h0 (by decide)
  · rw [hv] at he
    injection he with e1 e2 e3
    subst e1
    exact ⟨g, cap, hv, (Array.getElem?_eq_some_iff.1 hh).1, hC⟩
set_option maxHeartbeats 1600000 in
set_option maxRecDepth 100000 in
/-- strings.NewReplacer of the six texts. -/
theorem newReplacer_calls (A : Option Addr) (c : Nat) (w : World) (hC : Kd.string.C w A 6 [⟨#[92]⟩, ⟨#[92, 92]⟩, ⟨#[34]⟩, ⟨#[92, 34]⟩, ⟨#[10]⟩, ⟨#[92, 110]⟩]) :
    Calls Tryz.prog 64 #[.slice A 6 c] w fun e w' => ∃ rb ob c', e = .returned (.pointer (some ⟨rb, 0, none⟩)) ∧ RC w' rb 0 0 (.int .u32 0) .nilIface (.slice (some ⟨ob, 0, none⟩) 6 c') ∧ Six w' ob ∧ ob ≠ rb ∧ w.heap.size ≤ rb ∧ Below w.heap.size w w' := by
  have HC := Aside0.mk hC
  have HB := Aside0.mk (Below.refl w.heap.size w)
  have HN := Aside0.mk (Row.nil Kd.string 9 w w)
  have hinfo : (Tryz.prog.info? 9).map (fun i => (i.zero, i.size, i.bytes)) = some (some (.string ⟨#[]⟩), 1, 16) := by kernel_rfl
  have hT : Tryz.prog.underlying 44 = some (.slice 9) := by kernel_rfl
  clear hC
  go_enter Tryz.func64, Tryz.ntmps64
  go_wp2_with (at_builtin; (refine Kd.R_append_rows Kd.string (w0 := w) w.heap.size rfl _ _ 44 9 (.string ⟨#[]⟩) 16 rfl hT hinfo (by kernel_rfl) (by decide) (by omega) _ [] [⟨#[92]⟩, ⟨#[92, 92]⟩, ⟨#[34]⟩, ⟨#[92, 34]⟩, ⟨#[10]⟩, ⟨#[92, 110]⟩] A 6 c (fun _ => True) (fun _ => False) rfl rfl HN.out HC.out (fun _ _ h => h) (fun _ h => h.elim) (fun _ _ => trivial) HB.out (Nat.le_refl _) (by simp) ?_; intro v1 w1 k1 k2 k3 k4; obtain ⟨ob, cap, rfl, hlt, hC⟩ := row_six k1; have HK := Aside0.mk (And.intro hC (And.intro k2 hlt)); clear k1 k3 k4 k2 hC hlt))
  go_ret
  obtain ⟨hC, k2, hlt⟩ := HK.out
  exact ⟨w1.heap.size, ob, cap, rfl, heap_alloc_new _ _, ⟨Kd.C_below hC (below_alloc (Below.refl _ _) _)⟩, by omega, k2.size, below_alloc k2 _⟩
end Go.Proofs.YtgmdgaioiifgnaaGreat
