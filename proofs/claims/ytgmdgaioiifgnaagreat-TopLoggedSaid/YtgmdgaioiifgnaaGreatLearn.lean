/- record.learn. -/
import Derived.Test.YtgmdgaioiifgnaaGreatKn
import Derived.Test.YtgmdgaioiifgnaaGreatSame
import Derived.Test.YtgmdgaioiifgnaaGreatRcd
import Derived.Test.YtgmdgaioiifgnaaGreatRowIns
set_option linter.unusedVariables false
set_option linter.unusedSimpArgs false
namespace Go.Proofs.YtgmdgaioiifgnaaGreat
open Go.RowKit Go.Proofs.YtgmdgaioiifgnaaGreatW.PrintWords
/-! ### What learn does -/
def insKn (k : Kn) (i : Nat) (x : Rf) : Kn := ⟨k.refs.take i ++ [x] ++ k.refs.drop i, k.lasts.take i ++ [0] ++ k.lasts.drop i, k.has.take i ++ [false] ++ k.has.drop i⟩
def learnRef (k : Kn) (x : Rf) : Kn × Int :=
  if hasRef k.refs x.ref = true then (if orderLab (rdRef k.refs (findRef k.refs x.ref)).ls x.ls = 0 then (k, 0) else (k, 6))
  else if hasSame k.refs x.ls = true then (k, 6)
  else if k.refs.length = 1000 then (k, 2)
  else (insKn k (findRef k.refs x.ref) x, 0)
def learnRefs : Kn → List Rf → Kn × Int
  | k, [] => (k, 0)
  | k, x :: xs => if (learnRef k x).2 = 0 then learnRefs (learnRef k x).1 xs else learnRef k x
def learnPt (k : Kn) (p : Pt) : Kn × Int :=
  if hasRef k.refs p.ref = true then
    (if k.has.getD (findRef k.refs p.ref) false = true ∧ ¬ p.time > k.lasts.getD (findRef k.refs p.ref) 0 then (k, 0) else (⟨k.refs, k.lasts.set (findRef k.refs p.ref) p.time, k.has.set (findRef k.refs p.ref) true⟩, 0))
  else (k, 5)
def learnPts : Kn → List Pt → Kn × Int
  | k, [] => (k, 0)
  | k, p :: ps => if (learnPt k p).2 = 0 then learnPts (learnPt k p).1 ps else learnPt k p
def learnKn (k : Kn) (r : Rc) : Kn × Int := if (learnRefs k r.refs).2 = 0 then learnPts (learnRefs k r.refs).1 r.pts else learnRefs k r.refs
theorem learnRefs_go {k : Kn} {x : Rf} {xs : List Rf} (h : (learnRef k x).2 = 0) : learnRefs k (x :: xs) = learnRefs (learnRef k x).1 xs := by rw [learnRefs, if_pos h]
theorem learnRefs_stop {k : Kn} {x : Rf} {xs : List Rf} (h : (learnRef k x).2 ≠ 0) : learnRefs k (x :: xs) = learnRef k x := by rw [learnRefs, if_neg h]
theorem learnKn_stop {k k2 : Kn} {r : Rc} {e : Int} (h : learnRefs k r.refs = (k2, e)) (he : e ≠ 0) : learnKn k r = (k2, e) := by rw [learnKn, h, if_neg he]
theorem drop_ref {l : List Rf} {j : Nat} (h : j < l.length) : l.drop j = rdRef l j :: l.drop (j + 1) := by rw [List.drop_eq_getElem_cons h, rdRef_eq h]
theorem insKn_ok {k : Kn} {i : Nat} {x : Rf} (h : KnOk k) (h2 : k.refs.length ≠ 1000) (hi : i ≤ k.refs.length) (hx : RfOk x) : KnOk (insKn k i x) := by
  obtain ⟨h3, h4, h5, h6⟩ := h
  refine ⟨by simp [insKn]; omega, by simp [insKn]; omega, by simp [insKn]; omega, fun y hy => ?_⟩
  simp only [insKn, List.append_assoc, List.mem_append, List.mem_singleton] at hy
  rcases hy with hy | hy | hy
  · exact h6 y (List.mem_of_mem_take hy)
  · rw [hy]; exact hx
  · exact h6 y (List.mem_of_mem_drop hy)
theorem findRef_le (l : List Rf) (m : Int) : findRef l m ≤ l.length := bs_le _ _ _ (Nat.zero_le _)
theorem findRef_lt {l : List Rf} {m : Int} (h : hasRef l m = true) : findRef l m < l.length := by simp [hasRef] at h; exact h.1
/-- What learn holds in hand. -/
structure LSt (ws w0 w : World) (b : Nat) (k : Kn) (Ar Al Ah : Option Addr) (cr cl ch : Nat) : Prop where
  big : w0.heap.size ≤ b
  cells : w.heap[b]? = some (.cells #[.slice Ar k.refs.length cr, .slice Al k.lasts.length cl, .slice Ah k.has.length ch] 28 (0, 0))
  refs : Row kRef 62 w0 w (.slice Ar k.refs.length cr) k.refs
  lasts : Row (Kd.int .i64) 3 w0 w (.slice Al k.lasts.length cl) k.lasts
  has : Row Kd.bool 4 w0 w (.slice Ah k.has.length ch) k.has
  below : Below w0.heap.size w0 w
  kept : ∀ (g : Nat) (cs : Array Value), g ≠ b → ws.heap[g]? = some (.cells cs 28 (0, 0)) → w.heap[g]? = some (.cells cs 28 (0, 0))
theorem LSt.to {ws w0 w w1 : World} {b : Nat} {k : Kn} {Ar Al Ah : Option Addr} {cr cl ch : Nat} (h : LSt ws w0 w b k Ar Al Ah cr cl ch) (hb : Below w.heap.size w w1) : LSt ws w0 w1 b k Ar Al Ah cr cl ch :=
  ⟨h.big, (hb.block _ (Array.getElem?_eq_some_iff.1 h.cells).1).trans h.cells, h.refs.below hb, h.lasts.below hb, h.has.below hb, below_step h.below hb, fun g cs h1 h2 => (hb.block _ (Array.getElem?_eq_some_iff.1 (h.kept g cs h1 h2)).1).trans (h.kept g cs h1 h2)⟩
theorem LSt.readRefs {ws w0 w : World} {b : Nat} {k : Kn} {Ar Al Ah : Option Addr} {cr cl ch : Nat} (h : LSt ws w0 w b k Ar Al Ah cr cl ch) : kRef.C w Ar k.refs.length k.refs := (Kd.R_reads' h.refs).2.2
theorem LSt.c0 {ws w0 w : World} {b : Nat} {k : Kn} {Ar Al Ah : Option Addr} {cr cl ch : Nat} (h : LSt ws w0 w b k Ar Al Ah cr cl ch) : w.cell? ⟨b, 0, none⟩ = some (.slice Ar k.refs.length cr) := cell_head h.cells
theorem LSt.c1 {ws w0 w : World} {b : Nat} {k : Kn} {Ar Al Ah : Option Addr} {cr cl ch : Nat} (h : LSt ws w0 w b k Ar Al Ah cr cl ch) : w.cell? ⟨b, 1, none⟩ = some (.slice Al k.lasts.length cl) := cell_mid h.cells
theorem LSt.c2 {ws w0 w : World} {b : Nat} {k : Kn} {Ar Al Ah : Option Addr} {cr cl ch : Nat} (h : LSt ws w0 w b k Ar Al Ah cr cl ch) : w.cell? ⟨b, 2, none⟩ = some (.slice Ah k.has.length ch) := cell_last h.cells
/-- All that is at hand in the first loop: what is known, and the ref's own variable. -/
structure LX (ws w0 w : World) (b M : Nat) (k : Kn) (x : Rf) (Ar Al Ah Ax : Option Addr) (cr cl ch cx : Nat) : Prop where
  st : LSt ws w0 w b k Ar Al Ah cr cl ch
  x0 : w.cell? ⟨M, 0, none⟩ = some (.int .i64 x.ref)
  x1 : w.cell? ⟨M, 1, none⟩ = some (.slice Ax x.ls.length cx)
  ls : kLab.C w Ax x.ls.length x.ls
theorem LX.to {ws w0 w w1 : World} {b M : Nat} {k : Kn} {x : Rf} {Ar Al Ah Ax : Option Addr} {cr cl ch cx : Nat} (h : LX ws w0 w b M k x Ar Al Ah Ax cr cl ch cx) (hb : Below w.heap.size w w1) : LX ws w0 w1 b M k x Ar Al Ah Ax cr cl ch cx :=
  ⟨h.st.to hb, pw_cell_below hb h.x0, pw_cell_below hb h.x1, Kd.C_below h.ls hb⟩
theorem LX.cells {ws w0 w : World} {b M : Nat} {k : Kn} {x : Rf} {Ar Al Ah Ax : Option Addr} {cr cl ch cx : Nat} (h : LX ws w0 w b M k x Ar Al Ah Ax cr cl ch cx) : w.cell? ⟨b, 0, none⟩ = some (.slice Ar k.refs.length cr) ∧ w.cell? ⟨b, 1, none⟩ = some (.slice Al k.lasts.length cl) ∧ w.cell? ⟨b, 2, none⟩ = some (.slice Ah k.has.length ch) ∧ w.cell? ⟨M, 0, none⟩ = some (.int .i64 x.ref) ∧ w.cell? ⟨M, 1, none⟩ = some (.slice Ax x.ls.length cx) ∧ Aside0 (LX ws w0 w b M k x Ar Al Ah Ax cr cl ch cx) := ⟨h.st.c0, h.st.c1, h.st.c2, h.x0, h.x1, ⟨h⟩⟩
theorem below_drew1 (w : World) : Below w.heap.size w w.drew := below_drew (Below.refl _ _)
theorem block_below {w w1 : World} {g : Nat} {o : Obj} (h : w.heap[g]? = some o) (hb : Below w.heap.size w w1) : w1.heap[g]? = some o := (hb.block g (Array.getElem?_eq_some_iff.1 h).1).trans h
theorem block_kept {w w1 : World} {g T e base sz n : Nat} {cs : Array Value} {v : Value} {inner : List Value} (h : w.heap[g]? = some (.cells cs T (0, 0))) (ho : w.ownsRow base e sz v n inner) (he : e ≠ T) (hg : w.grownBy w1 v.ownBlock) : w1.heap[g]? = some (.cells cs T (0, 0)) :=
  (hg.block g (Array.getElem?_eq_some_iff.1 h).1 (fun hk => by
    obtain ⟨cells, hc⟩ := own_typed ho g hk.symm
    rw [h] at hc
    injection hc with hc
    injection hc with _ hc
    exact he hc.symm)).trans h
theorem LSt.put0 {ws w0 w w6 : World} {b n : Nat} {k : Kn} {Ar Al Ah A6 : Option Addr} {cr cl ch c6 : Nat} {xs : List Rf} (h : LSt ws w0 w b k Ar Al Ah cr cl ch) (h1 : Row kRef 62 w0 w6 (.slice A6 n c6) xs) (hn : xs.length = n) (h2 : w.grownBy w6 (Value.slice Ar k.refs.length cr).ownBlock) (h3 : Below w0.heap.size w0 w6) : LSt ws w0 (w6.setCell ⟨b, 0, none⟩ (.slice A6 n c6)) b ⟨xs, k.lasts, k.has⟩ A6 Al Ah c6 cl ch := by
  obtain ⟨inner, ho⟩ := Kd.R_own h.refs
  have q := block_kept h.cells ho (by decide) h2
  subst hn
  rw [setCell_eq_setRow w6 b 0 _ _ _ _ q]
  show LSt ws w0 (w6.setRow b #[.slice A6 xs.length c6, .slice Al k.lasts.length cl, .slice Ah k.has.length ch]) b ⟨xs, k.lasts, k.has⟩ A6 Al Ah c6 cl ch
  have hg : w6.grownBy (w6.setRow b #[.slice A6 xs.length c6, .slice Al k.lasts.length cl, .slice Ah k.has.length ch]) (some b) := grown_setRow (World.grownBy.refl w6 (some b)) b _ (.inl rfl)
  have hbig := h.big
  exact ⟨h.big, setRow_heap _ _ _ _ _ _ q, Row.typed h1 q noKn_ref hg, Row.typed (Row.apart h.lasts ho (by decide) h2) q noKn_int hg, Row.typed (Row.apart h.has ho (by decide) h2) q noKn_bool hg, h3.grown hg h3.size (fun i hi => by injection hi with hi; omega), fun g cs g1 g2 => (setRow_other _ _ _ _ g1).trans (block_kept (h.kept g cs g1 g2) ho (by decide) h2)⟩
theorem LSt.put1 {ws w0 w w6 : World} {b n : Nat} {k : Kn} {Ar Al Ah A6 : Option Addr} {cr cl ch c6 : Nat} {xs : List Int} (h : LSt ws w0 w b k Ar Al Ah cr cl ch) (h1 : Row (Kd.int .i64) 3 w0 w6 (.slice A6 n c6) xs) (hn : xs.length = n) (h2 : w.grownBy w6 (Value.slice Al k.lasts.length cl).ownBlock) (h3 : Below w0.heap.size w0 w6) : LSt ws w0 (w6.setCell ⟨b, 1, none⟩ (.slice A6 n c6)) b ⟨k.refs, xs, k.has⟩ Ar A6 Ah cr c6 ch := by
  obtain ⟨inner, ho⟩ := Kd.R_own h.lasts
  have q := block_kept h.cells ho (by decide) h2
  subst hn
  rw [setCell_eq_setRow w6 b 1 _ _ _ _ q]
  show LSt ws w0 (w6.setRow b #[.slice Ar k.refs.length cr, .slice A6 xs.length c6, .slice Ah k.has.length ch]) b ⟨k.refs, xs, k.has⟩ Ar A6 Ah cr c6 ch
  have hg : w6.grownBy (w6.setRow b #[.slice Ar k.refs.length cr, .slice A6 xs.length c6, .slice Ah k.has.length ch]) (some b) := grown_setRow (World.grownBy.refl w6 (some b)) b _ (.inl rfl)
  have hbig := h.big
  exact ⟨h.big, setRow_heap _ _ _ _ _ _ q, Row.typed (Row.apart h.refs ho (by decide) h2) q noKn_ref hg, Row.typed h1 q noKn_int hg, Row.typed (Row.apart h.has ho (by decide) h2) q noKn_bool hg, h3.grown hg h3.size (fun i hi => by injection hi with hi; omega), fun g cs g1 g2 => (setRow_other _ _ _ _ g1).trans (block_kept (h.kept g cs g1 g2) ho (by decide) h2)⟩
theorem LSt.put2 {ws w0 w w6 : World} {b n : Nat} {k : Kn} {Ar Al Ah A6 : Option Addr} {cr cl ch c6 : Nat} {xs : List Bool} (h : LSt ws w0 w b k Ar Al Ah cr cl ch) (h1 : Row Kd.bool 4 w0 w6 (.slice A6 n c6) xs) (hn : xs.length = n) (h2 : w.grownBy w6 (Value.slice Ah k.has.length ch).ownBlock) (h3 : Below w0.heap.size w0 w6) : LSt ws w0 (w6.setCell ⟨b, 2, none⟩ (.slice A6 n c6)) b ⟨k.refs, k.lasts, xs⟩ Ar Al A6 cr cl c6 := by
  obtain ⟨inner, ho⟩ := Kd.R_own h.has
  have q := block_kept h.cells ho (by decide) h2
  subst hn
  rw [setCell_eq_setRow w6 b 2 _ _ _ _ q]
  show LSt ws w0 (w6.setRow b #[.slice Ar k.refs.length cr, .slice Al k.lasts.length cl, .slice A6 xs.length c6]) b ⟨k.refs, k.lasts, xs⟩ Ar Al A6 cr cl c6
  have hg : w6.grownBy (w6.setRow b #[.slice Ar k.refs.length cr, .slice Al k.lasts.length cl, .slice A6 xs.length c6]) (some b) := grown_setRow (World.grownBy.refl w6 (some b)) b _ (.inl rfl)
  have hbig := h.big
  exact ⟨h.big, setRow_heap _ _ _ _ _ _ q, Row.typed (Row.apart h.refs ho (by decide) h2) q noKn_ref hg, Row.typed (Row.apart h.lasts ho (by decide) h2) q noKn_int hg, Row.typed h1 q noKn_bool hg, h3.grown hg h3.size (fun i hi => by injection hi with hi; omega), fun g cs g1 g2 => (setRow_other _ _ _ _ g1).trans (block_kept (h.kept g cs g1 g2) ho (by decide) h2)⟩
theorem ins_after {ws w0 w w6 : World} {b : Nat} {k : Kn} {Ar Al Ah : Option Addr} {cr cl ch : Nat} (h : LSt ws w0 w b k Ar Al Ah cr cl ch) (h2 : w.grownBy w6 (Value.slice Ar k.refs.length cr).ownBlock) : w6.cell? ⟨b, 0, none⟩ = some (.slice Ar k.refs.length cr) ∧ w6.frozen? ⟨b, 0, none⟩ = false := by
  obtain ⟨inner, ho⟩ := Kd.R_own h.refs
  have q := block_kept h.cells ho (by decide) h2
  exact ⟨cell_head q, frozen_head q⟩
theorem size_setCell (w : World) (a : Addr) (v : Value) : (w.setCell a v).heap.size = w.heap.size := by simp [World.setCell]
/-- A row of one's own that holds something: where its elements lie. -/
theorem Row.scalar_at {α : Type} {enc : α → Value} {h1 : ∀ x, (enc x).oneCell' = true} {e : Nat} {w0 w : World} {A : Option Addr} {n c : Nat} {xs : List α} (h : Row (Kd.scalar enc h1) e w0 w (.slice A n c) xs) (I : Nat) (hI : I < xs.length) : ∃ g, A = some ⟨g, 0, none⟩ ∧ w.cell? ⟨g, I, none⟩ = some (enc xs[I]) ∧ w.frozen? ⟨g, I, none⟩ = false ∧ (∃ cells, w.heap[g]? = some (.cells cells e (0, 0))) ∧ n = xs.length := by
  have ho := Kd.own_of_R h
  rcases ho.2 with ⟨hv, h0⟩ | ⟨g, cap, cur, hv, hb, hh, hnc, hcm, hcs, ht⟩
  · omega
  · injection hv with h2 h3 h4
    subst h2
    refine ⟨g, rfl, ?_, by simp [World.frozen?, hh], ⟨cur, hh⟩, h3⟩
    rw [row_cell hh]
    have h5 : (cur.toList.take (xs.length * 1))[I]? = some (enc xs[I]) := by rw [ht, encs, List.getElem?_map, List.getElem?_eq_getElem hI]; rfl
    rw [List.getElem?_take_of_lt (by omega)] at h5
    exact h5
theorem Row.scalar_set {α : Type} {enc : α → Value} {h1 : ∀ x, (enc x).oneCell' = true} {e : Nat} {w0 w : World} {g n c : Nat} {xs : List α} (h : Row (Kd.scalar enc h1) e w0 w (.slice (some ⟨g, 0, none⟩) n c) xs) (I : Nat) (hI : I < xs.length) (x : α) : Row (Kd.scalar enc h1) e w0 (w.setCell ⟨g, I, none⟩ (enc x)) (.slice (some ⟨g, 0, none⟩) n c) (xs.set I x) ∧ w.grownBy (w.setCell ⟨g, I, none⟩ (enc x)) (some g) := by
  have hl := (Kd.R_reads' h).1
  have hS := Kd.R_seg (seg := [enc x]) (c := [enc xs[I]]) (j := 0) (x' := x) (okp := fun _ => False) h (I : Int) (by omega) (by omega) rfl (fun j u hu => by
    obtain ⟨g', hA, hc, _⟩ := Row.scalar_at h I hI
    injection hA with hA
    injection hA with hA
    subst hA
    have hj : j = 0 := by
      have := (List.getElem?_eq_some_iff.1 hu).1
      simp at this
      exact this
    subst hj
    have hu' : enc xs[I] = u := by simpa using hu
    rw [← hu', Int.toNat_natCast]
    show w.cell? ⟨g, I * 1 + 0, none⟩ = _
    rw [Nat.mul_one, Nat.add_zero]
    exact hc) (Nat.le_refl _) rfl (fun _ h => h.elim)
  have e1 : w.setCells g ((I : Int).toNat * (Kd.scalar enc h1).sz + 0) [enc x] = w.setCell ⟨g, I, none⟩ (enc x) := by
    show w.setCells g (I * 1 + 0) [enc x] = _
    rw [Nat.mul_one, Nat.add_zero]
    rfl
  rw [e1, Int.toNat_natCast] at hS
  exact hS
theorem LSt.setHas {ws w0 w : World} {b g I : Nat} {k : Kn} {Ar Al : Option Addr} {cr cl ch : Nat} (h : LSt ws w0 w b k Ar Al (some ⟨g, 0, none⟩) cr cl ch) (hI : I < k.has.length) (x : Bool) : LSt ws w0 (w.setCell ⟨g, I, none⟩ (.bool x)) b ⟨k.refs, k.lasts, k.has.set I x⟩ Ar Al (some ⟨g, 0, none⟩) cr cl ch := by
  obtain ⟨h1, h2⟩ := Row.scalar_set h.has I hI x
  obtain ⟨inner, ho⟩ := Kd.R_own h.has
  refine ⟨h.big, ?_, Row.apart h.refs ho (by decide) h2, Row.apart h.lasts ho (by decide) h2, ?_, h.below.grown h2 h.below.size (fun i hi => own_base ho i hi), fun g cs g1 g2 => block_kept (h.kept g cs g1 g2) ho (by decide) h2⟩
  · have := block_kept h.cells ho (by decide) h2
    simpa using this
  · simp only [List.length_set]
    exact h1
theorem LSt.setLasts {ws w0 w : World} {b g I : Nat} {k : Kn} {Ar Ah : Option Addr} {cr cl ch : Nat} (h : LSt ws w0 w b k Ar (some ⟨g, 0, none⟩) Ah cr cl ch) (hI : I < k.lasts.length) (x : Int) : LSt ws w0 (w.setCell ⟨g, I, none⟩ (.int .i64 x)) b ⟨k.refs, k.lasts.set I x, k.has⟩ Ar (some ⟨g, 0, none⟩) Ah cr cl ch := by
  obtain ⟨h1, h2⟩ := Row.scalar_set h.lasts I hI x
  obtain ⟨inner, ho⟩ := Kd.R_own h.lasts
  refine ⟨h.big, ?_, Row.apart h.refs ho (by decide) h2, ?_, Row.apart h.has ho (by decide) h2, h.below.grown h2 h.below.size (fun i hi => own_base ho i hi), fun g cs g1 g2 => block_kept (h.kept g cs g1 g2) ho (by decide) h2⟩
  · have := block_kept h.cells ho (by decide) h2
    simpa using this
  · simp only [List.length_set]
    exact h1
theorem drop_pt {l : List Pt} {j : Nat} (h : j < l.length) : l.drop j = rdPt l j :: l.drop (j + 1) := by rw [List.drop_eq_getElem_cons h, rdPt_eq h]
theorem keep5 {W U : World} {a b c d e : Addr} {u v x y z : Value} (h1 : W.cell? a = some u) (h2 : W.cell? b = some v) (h3 : W.cell? c = some x) (h4 : W.cell? d = some y) (h5 : W.cell? e = some z) (hb : Below W.heap.size W U) : U.cell? a = some u ∧ U.cell? b = some v ∧ U.cell? c = some x ∧ U.cell? d = some y ∧ U.cell? e = some z := ⟨pw_cell_below hb h1, pw_cell_below hb h2, pw_cell_below hb h3, pw_cell_below hb h4, pw_cell_below hb h5⟩
theorem ne_types {w : World} {g g2 T T2 : Nat} {c c2 : Array Value} (h : w.heap[g]? = some (.cells c T (0, 0))) (h2 : w.heap[g2]? = some (.cells c2 T2 (0, 0))) (hT : T ≠ T2) : g ≠ g2 := fun he => by
  subst he
  rw [h] at h2
  injection h2 with h2
  injection h2 with _ h2
  exact hT h2
theorem row_far {α : Type} {d : Kd α} {e : Nat} {w W : World} {v : Value} {xs : List α} (h : Row d e w W v xs) {q : Nat} (hq : W.heap.size ≤ q) : some q ≠ v.ownBlock := fun he => by have := Kd.R_lt h q he.symm; omega
theorem kept_cells {α : Type} {d : Kd α} {w0 w w6 : World} {b T e : Nat} {x y z v : Value} {xs : List α} (hc : w.heap[b]? = some (.cells #[x, y, z] T (0, 0))) (h : Row d e w0 w v xs) (he : e ≠ T) (h2 : w.grownBy w6 v.ownBlock) : w6.cell? ⟨b, 0, none⟩ = some x ∧ w6.cell? ⟨b, 1, none⟩ = some y ∧ w6.cell? ⟨b, 2, none⟩ = some z ∧ w6.frozen? ⟨b, 0, none⟩ = false ∧ w6.frozen? ⟨b, 1, none⟩ = false ∧ w6.frozen? ⟨b, 2, none⟩ = false ∧ b < w6.heap.size := by
  obtain ⟨inner, ho⟩ := Kd.R_own h
  have q := block_kept hc ho he h2
  exact ⟨cell_head q, cell_mid q, cell_last q, by simp [World.frozen?, q], by simp [World.frozen?, q], by simp [World.frozen?, q], (Array.getElem?_eq_some_iff.1 q).1⟩
/-- A block of a third type is as it was behind an insert and the store of its result. -/
theorem put_other {α : Type} {d : Kd α} {w0 w w6 : World} {b g T T2 e : Nat} {cs ds : Array Value} {v : Value} {xs : List α} (j : Nat) (u : Value) (hc : w.heap[b]? = some (.cells cs T (0, 0))) (hd : w.heap[g]? = some (.cells ds T2 (0, 0))) (h : Row d e w0 w v xs) (he : e ≠ T) (he2 : e ≠ T2) (hT : T ≠ T2) (h2 : w.grownBy w6 v.ownBlock) : (w6.setCell ⟨b, j, none⟩ u).heap[g]? = some (.cells ds T2 (0, 0)) := by
  obtain ⟨inner, ho⟩ := Kd.R_own h
  have q := block_kept hc ho he h2
  have q2 := block_kept hd ho he2 h2
  rw [setCell_eq_setRow w6 b j _ _ _ _ q, setRow_other _ _ _ _ (fun hg => by
    subst hg
    rw [q] at q2
    injection q2 with q2
    injection q2 with _ q2
    exact hT q2)]
  exact q2
theorem keepX {ws w0 W U : World} {b M : Nat} {k : Kn} {x : Rf} {Ar Al Ah Ax : Option Addr} {cr cl ch cx : Nat} (h : LX ws w0 W b M k x Ar Al Ah Ax cr cl ch cx) (hb : Below W.heap.size W U) : U.cell? ⟨b, 0, none⟩ = some (.slice Ar k.refs.length cr) ∧ U.cell? ⟨b, 1, none⟩ = some (.slice Al k.lasts.length cl) ∧ U.cell? ⟨b, 2, none⟩ = some (.slice Ah k.has.length ch) ∧ U.cell? ⟨M, 0, none⟩ = some (.int .i64 x.ref) ∧ U.cell? ⟨M, 1, none⟩ = some (.slice Ax x.ls.length cx) ∧ Aside0 (LX ws w0 U b M k x Ar Al Ah Ax cr cl ch cx) ∧ Aside0 (Below W.heap.size W U) :=
  ⟨(h.to hb).cells.1, (h.to hb).cells.2.1, (h.to hb).cells.2.2.1, (h.to hb).x0, (h.to hb).x1, ⟨h.to hb⟩, ⟨hb⟩⟩
theorem keep3 {W U : World} {a b c : Addr} {u v x : Value} (h1 : W.cell? a = some u) (h2 : W.cell? b = some v) (h3 : W.cell? c = some x) (hb : Below W.heap.size W U) : U.cell? a = some u ∧ U.cell? b = some v ∧ U.cell? c = some x := ⟨pw_cell_below hb h1, pw_cell_below hb h2, pw_cell_below hb h3⟩
theorem LX.new {ws w0 w : World} {b : Nat} {k : Kn} {x : Rf} {Ar Al Ah Ax : Option Addr} {cr cl ch cx : Nat} (h : LSt ws w0 w b k Ar Al Ah cr cl ch) (hl : kLab.C w Ax x.ls.length x.ls) : LX ws w0 (w.alloc (.cells #[.int .i64 x.ref, .slice Ax x.ls.length cx] 62)) b w.heap.size k x Ar Al Ah Ax cr cl ch cx :=
  ⟨h.to (below_alloc (Below.refl _ _) _), by rw [row_cell (heap_alloc_new w _)]; rfl, by rw [row_cell (heap_alloc_new w _)]; rfl, Kd.C_below hl (below_alloc (Below.refl _ _) _)⟩
set_option maxHeartbeats 2000000 in
set_option maxRecDepth 100000 in
theorem learn_calls (ws w0 w : World) (b : Nat) (k : Kn) (r : Rc) (v : Value) (Ar Al Ah : Option Addr) (cr cl ch : Nat) (hk : KnOk k) (hr : ∀ x ∈ r.refs, RfOk x) (hs : LSt ws w0 w b k Ar Al Ah cr cl ch) (hv : RcV w0 v r) : Calls Tryz.prog 18 #[.pointer (some ⟨b, 0, none⟩), v] w fun e w' => e = .returned (.int .i64 (learnKn k r).2) ∧ KnOk (learnKn k r).1 ∧ ∃ Ar Al Ah cr cl ch, LSt ws w0 w' b (learnKn k r).1 Ar Al Ah cr cl ch := by
  obtain ⟨A0, c0, A1, c1, rfl, l0, l1, h0, h1⟩ := hv
  have H0 := Aside0.mk h0
  have H1 := Aside0.mk h1
  have HR := Aside0.mk hr
  have hrl : (r.refs.length : Int) ≤ 9223372036854775807 := by have := h0.2.1; omega
  have hpl : (r.pts.length : Int) ≤ 9223372036854775807 := by have := h1.2.1; omega
  have HS := Aside0.mk (hs.to (below_alloc (Below.refl w.heap.size w) (.cells #[.int .i64 r.kind, .slice A0 r.refs.length c0, .slice A1 r.pts.length c1] 35)))
  have HK := Aside0.mk hk
  clear hs h0 h1 hr hk
  go_enter Tryz.func18, Tryz.ntmps18
  go_wp2
  have hp2 := Aside0.mk (heap_alloc_new w (.cells #[.int .i64 r.kind, .slice A0 r.refs.length c0, .slice A1 r.pts.length c1] 35))
  generalize w.heap.size = Z at *
  generalize w.alloc (.cells #[.int .i64 r.kind, .slice A0 r.refs.length c0, .slice A1 r.pts.length c1] 35) = w1 at *
  go_loopw [16] (fun i wr => ∃ (j : Nat) (kj : Kn) (Ar Al Ah : Option Addr) (cr cl ch : Nat), j ≤ r.refs.length ∧ i = .int .i64 j ∧ Aside0 (wr.heap[Z]? = some (.cells #[.int .i64 r.kind, .slice A0 r.refs.length c0, .slice A1 r.pts.length c1] 35 (0, 0))) ∧ Aside0 (LSt ws w0 wr b kj Ar Al Ah cr cl ch) ∧ Aside0 (KnOk kj) ∧ Aside0 (learnRefs kj (r.refs.drop j) = learnRefs k r.refs)) (fun i _ => r.refs.length - (intOf i).toNat)
  case atStart => exact ⟨0, k, Ar, Al, Ah, cr, cl, ch, by omega, rfl, hp2, HS, HK, ⟨rfl⟩⟩
  case round =>
    obtain ⟨j, kj, Ar, Al, Ah, cr, cl, ch, hj, rfl, hp, HL, HO, HE⟩ := hrel
    clear HS HK hp2
    by_cases hlt : j < r.refs.length
    · have hltb : (j : Int) < (r.refs.length : Int) := by omega
      obtain ⟨ad, A', c', rfl, g0, g1, g2, g3⟩ := at_ref (Kd.C_below H0.out HL.out.below) j hlt
      have HX := Aside0.mk (LX.new (cx := c') HL.out g3)
      have hx := HX.out.cells
      have hp3 := Aside0.mk (block_below hp.out (below_alloc (Below.refl wr.heap.size wr) (.cells #[.int .i64 (rdRef r.refs j).ref, .slice A' (rdRef r.refs j).ls.length c'] 62)))
      clear g3
      go_wp2_with fail
      clear g0 g1
      generalize wr.heap.size = M at *
      generalize wr.alloc (.cells #[.int .i64 (rdRef r.refs j).ref, .slice A' (rdRef r.refs j).ls.length c'] 62) = W at *
      have HW0 := Aside0.mk (Below.refl W.heap.size W)
      clear hp
      by_cases hh : hasRef kj.refs (rdRef r.refs j).ref = true
      · have HH := Aside0.mk hh
        have HF := Aside0.mk (findRef_lt hh)
        clear hh
        go_region_held3 (fun U => U.cell? ⟨b, 0, none⟩ = some (.slice Ar kj.refs.length cr) ∧ U.cell? ⟨b, 1, none⟩ = some (.slice Al kj.lasts.length cl) ∧ U.cell? ⟨b, 2, none⟩ = some (.slice Ah kj.has.length ch) ∧ U.cell? ⟨M, 0, none⟩ = some (.int .i64 (rdRef r.refs j).ref) ∧ U.cell? ⟨M, 1, none⟩ = some (.slice A' (rdRef r.refs j).ls.length c') ∧ Aside0 (LX ws w0 U b M kj (rdRef r.refs j) Ar Al Ah A' cr cl ch c') ∧ Aside0 (Below W.heap.size W U))
          (first | exact keepX HX.out (below_drew1 W) | exact keepX HX.out (below_step (below_drew1 W) hb2) | go_keep)
          (first | (go_at_call 41; refine (find_calls Ar cr kj.refs _ _ _ _ rfl rfl (HX.out.to (below_drew1 W)).st.readRefs (by have := HO.out.2.2.1; omega)).mono ?_; rw [HH.out]; rintro e w2 ⟨rfl, hb2⟩))
        have hX2 := HX.out.to (below_step (below_drew1 W) hb2)
        have HX2 := Aside0.mk hX2
        have HB2 := Aside0.mk (below_step (below_drew1 W) hb2)
        have hi := HF.out
        have hib : ((findRef kj.refs (rdRef r.refs j).ref : Nat) : Int) < (kj.refs.length : Int) := by omega
        obtain ⟨adr, A2, c2, rfl, q0, q1, q2, q3⟩ := at_ref hX2.st.readRefs _ hi
        have Q3 := Aside0.mk q3
        have hx2 := hX2.cells
        clear q3 hX2 hb2 hx HX
        go_wp2_with fail
        generalize hI : findRef kj.refs (rdRef r.refs j).ref = I at *
        by_cases ho : orderLab (rdRef kj.refs I).ls (rdRef r.refs j).ls = 0
        · have HO0 := Aside0.mk ho
          clear ho
          go_region_held3 (fun U => U.cell? ⟨b, 0, none⟩ = some (.slice (some adr) kj.refs.length cr) ∧ U.cell? ⟨M, 1, none⟩ = some (.slice A' (rdRef r.refs j).ls.length c') ∧ U.cell? ⟨(adr.add (I * 2)).block, (adr.add (I * 2)).off + 1, none⟩ = some (.slice A2 (rdRef kj.refs I).ls.length c2))
            (first | exact keep3 hx2.1 hx2.2.2.2.2.1 q1 (below_drew1 w2) | exact keep3 hx2.1 hx2.2.2.2.2.1 q1 (below_step (below_drew1 w2) hb4) | go_keep)
            (first | (go_at_call 42; refine (order_calls A2 A' c2 c' _ _ _ (Kd.C_below Q3.out (below_drew1 w2)) (Kd.C_below HX2.out.ls (below_drew1 w2))).mono ?_; rw [HO0.out]; rintro e w4 ⟨rfl, hb4⟩))
          have HN := Aside0.mk (show learnRefs kj (r.refs.drop (j + 1)) = learnRefs k r.refs by
            have hl : learnRef kj (rdRef r.refs j) = (kj, 0) := by rw [learnRef, if_pos HH.out, hI, if_pos HO0.out]
            rw [← HE.out, drop_ref hlt, learnRefs_go (by rw [hl]), hl])
          have hw4 := below_step HB2.out (below_step (below_drew1 w2) hb4)
          have hq := Aside0.mk (block_below hp3.out hw4)
          go_wp2_with fail
          go_roundw
          case rel => exact ⟨j + 1, kj, some adr, Al, Ah, cr, cl, ch, by omega, by go_num, hq, ⟨HX2.out.st.to (below_step (below_drew1 w2) hb4)⟩, HO, HN⟩
          case measure => simp [intOf]; omega
        · have HN := Aside0.mk (show learnKn k r = (kj, 6) by
            have hl : learnRef kj (rdRef r.refs j) = (kj, 6) := by rw [learnRef, if_pos HH.out, hI, if_neg ho]
            exact learnKn_stop (by rw [← HE.out, drop_ref hlt, learnRefs_stop (by rw [hl]; exact (by decide : (6 : Int) ≠ 0)), hl]) (by decide))
          have hob : (orderLab (rdRef kj.refs I).ls (rdRef r.refs j).ls == 0) = false := beq_false_of_ne ho
          go_region_held3 (fun U => U.cell? ⟨b, 0, none⟩ = some (.slice (some adr) kj.refs.length cr) ∧ U.cell? ⟨M, 1, none⟩ = some (.slice A' (rdRef r.refs j).ls.length c') ∧ U.cell? ⟨(adr.add (I * 2)).block, (adr.add (I * 2)).off + 1, none⟩ = some (.slice A2 (rdRef kj.refs I).ls.length c2))
            (first | exact keep3 hx2.1 hx2.2.2.2.2.1 q1 (below_drew1 w2) | exact keep3 hx2.1 hx2.2.2.2.2.1 q1 (below_step (below_drew1 w2) hb4) | go_keep)
            (first | (go_at_call 42; refine (order_calls A2 A' c2 c' _ _ _ (Kd.C_below Q3.out (below_drew1 w2)) (Kd.C_below HX2.out.ls (below_drew1 w2))).mono ?_; rintro e w4 ⟨rfl, hb4⟩))
          go_wp2_with fail
          go_ret
          exact ⟨by rw [HN.out]; rfl, by rw [HN.out]; exact HO.out, some adr, Al, Ah, cr, cl, ch, by rw [HN.out]; exact HX2.out.st.to (below_step (below_drew1 w2) hb4)⟩
      · have hh : hasRef kj.refs (rdRef r.refs j).ref = false := by simpa using hh
        have HH := Aside0.mk hh
        have HF := Aside0.mk (findRef_le kj.refs (rdRef r.refs j).ref)
        clear hh
        go_region_held3 (fun U => U.cell? ⟨b, 0, none⟩ = some (.slice Ar kj.refs.length cr) ∧ U.cell? ⟨b, 1, none⟩ = some (.slice Al kj.lasts.length cl) ∧ U.cell? ⟨b, 2, none⟩ = some (.slice Ah kj.has.length ch) ∧ U.cell? ⟨M, 0, none⟩ = some (.int .i64 (rdRef r.refs j).ref) ∧ U.cell? ⟨M, 1, none⟩ = some (.slice A' (rdRef r.refs j).ls.length c') ∧ Aside0 (LX ws w0 U b M kj (rdRef r.refs j) Ar Al Ah A' cr cl ch c') ∧ Aside0 (Below W.heap.size W U))
          (first | exact keepX HX.out (below_drew1 W) | exact keepX HX.out (below_step (below_drew1 W) hb2) | go_keep)
          (first | (go_at_call 41; refine (find_calls Ar cr kj.refs _ _ _ _ rfl rfl (HX.out.to (below_drew1 W)).st.readRefs (by have := HO.out.2.2.1; omega)).mono ?_; rw [HH.out]; rintro e w2 ⟨rfl, hb2⟩))
        have hX2 := HX.out.to (below_step (below_drew1 W) hb2)
        have HX2 := Aside0.mk hX2
        have HB2 := Aside0.mk (below_step (below_drew1 W) hb2)
        have hx2 := hX2.cells
        clear hX2 hb2 hx HX
        go_wp2_with fail
        go_quiet (fail)
        have HX3 := Aside0.mk (HX2.out.to (pw_below_drewN (Below.refl w2.heap.size w2) nq))
        have HB3 := Aside0.mk (below_step HB2.out (pw_below_drewN (Below.refl w2.heap.size w2) nq))
        have hx3 := HX3.out.cells
        clear hx2 HX2 HB2
        generalize w2.drewN nq = w3 at *
        have hh3 := hx3.1
        by_cases hs : hasSame kj.refs (rdRef r.refs j).ls = true
        · have HS := Aside0.mk hs
          clear hs
          have HN := Aside0.mk (show learnKn k r = (kj, 6) by
            have hl : learnRef kj (rdRef r.refs j) = (kj, 6) := by rw [learnRef, if_neg (by rw [HH.out]; decide), if_pos HS.out]
            exact learnKn_stop (by rw [← HE.out, drop_ref hlt, learnRefs_stop (by rw [hl]; exact (by decide : (6 : Int) ≠ 0)), hl]) (by decide))
          go_wp2_with (first | (go_at_call 43; refine (containsSame_calls Ar A' cr c' kj.refs (rdRef r.refs j).ls M _ HX3.out.st.readRefs HX3.out.ls HX3.out.x1).mono ?_; rw [HS.out]; rintro e w4 ⟨rfl, hb4⟩))
          go_ret
          exact ⟨by rw [HN.out]; rfl, by rw [HN.out]; exact HO.out, Ar, Al, Ah, cr, cl, ch, by rw [HN.out]; exact HX3.out.st.to hb4⟩
        · have hs : hasSame kj.refs (rdRef r.refs j).ls = false := by simpa using hs
          have HS := Aside0.mk hs
          clear hs
          by_cases hm : kj.refs.length = 1000
          · have HN := Aside0.mk (show learnKn k r = (kj, 2) by
              have hl : learnRef kj (rdRef r.refs j) = (kj, 2) := by rw [learnRef, if_neg (by rw [HH.out]; decide), if_neg (by rw [HS.out]; decide), if_pos hm]
              exact learnKn_stop (by rw [← HE.out, drop_ref hlt, learnRefs_stop (by rw [hl]; exact (by decide : (2 : Int) ≠ 0)), hl]) (by decide))
            have hmb : ((kj.refs.length : Int) == 1000) = true := by rw [hm]; rfl
            clear hm
            go_wp2_with (first | (go_at_call 43; refine (containsSame_calls Ar A' cr c' kj.refs (rdRef r.refs j).ls M _ HX3.out.st.readRefs HX3.out.ls HX3.out.x1).mono ?_; rw [HS.out]; rintro e w4 ⟨rfl, hb4⟩; have hh4 := pw_cell_below hb4 hh3))
            go_ret
            exact ⟨by rw [HN.out]; rfl, by rw [HN.out]; exact HO.out, Ar, Al, Ah, cr, cl, ch, by rw [HN.out]; exact HX3.out.st.to hb4⟩
          · have hmb : ((kj.refs.length : Int) == 1000) = false := beq_false_of_ne (by omega)
            have HM := Aside0.mk hm
            go_wp2_with (first | (go_at_call 43; refine (containsSame_calls Ar A' cr c' kj.refs (rdRef r.refs j).ls M _ HX3.out.st.readRefs HX3.out.ls HX3.out.x1).mono ?_; rw [HS.out]; rintro e w4 ⟨rfl, hb4⟩; have hh4 := pw_cell_below hb4 hh3))
            have HX4 := Aside0.mk (HX3.out.to hb4)
            have hB4 := below_step HB3.out hb4
            have HP4 := Aside0.mk (block_below hp3.out hB4)
            have hx4 := HX4.out.cells.1
            have hy4 := HX4.out.x0
            have hz4 := HX4.out.x1
            have hf4 := frozen_head HX4.out.st.cells
            have hbl := (Array.getElem?_eq_some_iff.1 HX4.out.st.cells).1
            clear hx3 hh3 hh4 HX3 HB3 hb4 hB4 hp3
            have hi := HF.out
            have hib : ((findRef kj.refs (rdRef r.refs j).ref : Nat) : Int) ≤ (kj.refs.length : Int) := by omega
            have HN1 := Aside0.mk (show kj.refs.length ≤ 1000000 by have := HO.out.2.2.1; omega)
            have hsz := Aside0.mk (show (rdRef r.refs j).ls.length * 32 ≤ 140737488355328 by have := (HR.out _ (List.getElem_mem hlt)).1; rw [← rdRef_eq hlt] at this; omega)
            generalize hI : findRef kj.refs (rdRef r.refs j).ref = I at *
            rename_i Q2 K2 hK2 _ K3 hK3
            have rest3 : ∀ (Ax A6 : Option Addr) (cx c6 M5 : Nat) (W7 : World), Aside0 (LSt ws w0 W7 b ⟨kj.refs.take I ++ [rdRef r.refs j] ++ kj.refs.drop I, kj.lasts, kj.has⟩ A6 Al Ah c6 cl ch) → Aside0 (W7.heap[Z]? = some (.cells #[.int .i64 r.kind, .slice (some ad) r.refs.length c0, .slice A1 r.pts.length c1] 35 (0, 0))) → Exit.then K3 (Exit.inBlock 1 (Exit.then K2 Q2)) .normal { tmps := #[Value.pointer (some ⟨b, 0, none⟩), Value.agg #[Value.int IntKind.i64 r.kind, Value.slice (some ad) r.refs.length c0, Value.slice A1 r.pts.length c1], undef, Value.pointer (some ⟨Z, 0, none⟩), u4, undef, Value.pointer (some ⟨M, 0, none⟩), Value.int IntKind.i64 (I : Int), Value.bool false, undef, undef, undef, undef, Value.pointer (some ⟨Z, 1, none⟩), Value.slice (some ad) r.refs.length c0, Value.int IntKind.i64 (r.refs.length : Int), Value.int IntKind.i64 (j : Int), Value.bool true, Value.pointer (some (ad.add (j * 2))), Value.agg #[Value.int IntKind.i64 (rdRef r.refs j).ref, Value.slice A' (rdRef r.refs j).ls.length c'], Value.tuple #[Value.int IntKind.i64 (I : Int), Value.bool false], Value.pointer (some ⟨b, 0, none⟩), Value.pointer (some ⟨b, 0, none⟩), Value.agg #[Value.slice Ar kj.refs.length cr, Value.slice Al kj.lasts.length cl, Value.slice Ah kj.has.length ch], Value.pointer (some ⟨M, 0, none⟩), Value.int IntKind.i64 (rdRef r.refs j).ref, Value.tuple #[Value.int IntKind.i64 (I : Int), Value.bool false], Value.int IntKind.i64 (I : Int), Value.bool false, Value.bool false, Value.bool false, undef, undef, undef, undef, undef, undef, undef, undef, undef, undef, undef, undef, Value.bool false, Value.bool false, Value.bool false, Value.pointer (some ⟨b, 0, none⟩), Value.pointer (some ⟨b, 0, none⟩), Value.pointer (some ⟨b, 0, none⟩), Value.slice Ar kj.refs.length cr, Value.func (Fn.func 44) #[] #[Value.pointer (some ⟨M, 0, none⟩)], Value.bool false, Value.bool false, Value.pointer (some ⟨b, 0, none⟩), Value.pointer (some ⟨b, 0, none⟩), Value.pointer (some ⟨b, 0, none⟩), Value.slice Ar kj.refs.length cr, Value.int IntKind.i64 (kj.refs.length : Int), Value.bool false, Value.pointer (some ⟨b, 0, none⟩), Value.pointer (some ⟨b, 0, none⟩), Value.pointer (some ⟨b, 0, none⟩), Value.pointer (some ⟨b, 0, none⟩), Value.slice Ar kj.refs.length cr, Value.int IntKind.i64 (I : Int), Value.pointer (some ⟨M, 0, none⟩), Value.int IntKind.i64 (rdRef r.refs j).ref, Value.pointer (some ⟨M, 1, none⟩), Value.slice A' (rdRef r.refs j).ls.length c', Value.slice Ax (rdRef r.refs j).ls.length cx, Value.agg #[Value.int IntKind.i64 (rdRef r.refs j).ref, Value.slice Ax (rdRef r.refs j).ls.length cx], Value.slice (some ⟨M5, 0, none⟩) 1 1, Value.slice A6 (kj.refs.length + 1) c6, Value.pointer (some ⟨b, 0, none⟩), Value.pointer (some ⟨b, 0, none⟩), u75, u76, u77, u78, u79, u80, u81, u82, u83, u84, u85, u86, u87, u88, u89, u90, u91, u92, u93, u94, u95, undef, undef, undef, undef, undef, undef, undef, undef, undef, undef, undef, undef, undef, undef, undef, undef, undef, undef, undef, undef, undef, undef, undef, undef, undef, undef, undef, undef, undef, undef, undef, undef, undef, undef, undef, undef, undef, undef, undef, undef, undef, undef, undef, undef, undef, undef, undef, undef, undef, undef, undef, undef, undef], defers := [] } W7 := by
              intro Ax A6 cx c6 M5 W7 HL7 HZ7
              have HN7 := Aside0.mk (show learnRefs (insKn kj I (rdRef r.refs j)) (r.refs.drop (j + 1)) = learnRefs k r.refs by
                have hl : learnRef kj (rdRef r.refs j) = (insKn kj I (rdRef r.refs j), 0) := by rw [learnRef, if_neg (by rw [HH.out]; decide), if_neg (by rw [HS.out]; decide), if_neg HM.out, hI]
                rw [← HE.out, drop_ref hlt, learnRefs_go (by rw [hl]), hl])
              have HO7 := Aside0.mk (insKn_ok (x := rdRef r.refs j) HO.out HM.out HF.out (by rw [rdRef_eq hlt]; exact HR.out _ (List.getElem_mem hlt)))
              have HI1 := Aside0.mk (show I ≤ kj.lasts.length ∧ kj.lasts.length ≤ 1000000 ∧ I ≤ kj.has.length ∧ kj.has.length ≤ 1000000 ∧ (kj.lasts.take I ++ [0] ++ kj.lasts.drop I).length = kj.lasts.length + 1 ∧ (kj.has.take I ++ [false] ++ kj.has.drop I).length = kj.has.length + 1 by
                obtain ⟨y1, y2, y3, _⟩ := HO.out
                have := HF.out
                refine ⟨by omega, by omega, by omega, by omega, by simp; omega, by simp; omega⟩)
              have t1 := HL7.out.c1
              have hb7 := (Array.getElem?_eq_some_iff.1 HL7.out.cells).1
              refine hK3 _ _ ?_
              clear hK3 hx4 hy4 hz4 hf4 HX4 hbl
              go_wp2_with (first
                | (go_at_call 46; refine (insertInt_calls (w0 := w0) kj.lasts 0 I W7.heap.size (HL7.out.lasts.below (below_alloc (Below.refl W7.heap.size W7) _)) HI1.out.1 HI1.out.2.1 (heap_alloc_new W7 _) (row_far HL7.out.lasts (Nat.le_refl _)) (below_alloc HL7.out.below _)).mono ?_; rintro e w8 ⟨A8, c8, rfl, i1, i2, i3⟩; have HL8 := Aside0.mk ((HL7.out.to (below_alloc (Below.refl W7.heap.size W7) (.cells #[.int .i64 0] 3))).put1 i1 HI1.out.2.2.2.2.1 i2 i3); have HZ8 := Aside0.mk (put_other 1 (.slice A8 (kj.lasts.length + 1) c8) (HL7.out.to (below_alloc (Below.refl W7.heap.size W7) (.cells #[.int .i64 0] 3))).cells (block_below HZ7.out (below_alloc (Below.refl W7.heap.size W7) (.cells #[.int .i64 0] 3))) (HL7.out.to (below_alloc (Below.refl W7.heap.size W7) (.cells #[.int .i64 0] 3))).lasts (by decide) (by decide) (by decide) i2); have m8 := kept_cells (HL7.out.to (below_alloc (Below.refl W7.heap.size W7) (.cells #[.int .i64 0] 3))).cells (HL7.out.to (below_alloc (Below.refl W7.heap.size W7) (.cells #[.int .i64 0] 3))).lasts (by decide) i2; go_split_ands)
                | (go_at_call 47; have HL9 := HL8.out.to (below_alloc (Below.refl (w8.setCell ⟨b, 1, none⟩ (.slice A8 (kj.lasts.length + 1) c8)).heap.size (w8.setCell ⟨b, 1, none⟩ (.slice A8 (kj.lasts.length + 1) c8))) (.cells #[.bool false] 4)); have z9 : (w8.setCell ⟨b, 1, none⟩ (.slice A8 (kj.lasts.length + 1) c8)).heap.size = w8.heap.size := size_setCell _ _ _; refine (insertBool_calls (w0 := w0) kj.has false I w8.heap.size HL9.has HI1.out.2.2.1 HI1.out.2.2.2.1 (by rw [← z9]; exact heap_alloc_new _ _) (row_far HL8.out.has (Nat.le_of_eq z9)) HL9.below).mono ?_; rintro e w10 ⟨A10, c10, rfl, i4, i5, i6⟩; have HL10 := Aside0.mk (HL9.put2 i4 HI1.out.2.2.2.2.2 i5 i6); have HZ10 := Aside0.mk (put_other 2 (.slice A10 (kj.has.length + 1) c10) HL9.cells (block_below HZ8.out (below_alloc (Below.refl _ _) _)) HL9.has (by decide) (by decide) (by decide) i5); have m10 := kept_cells HL9.cells HL9.has (by decide) i5; clear HL9; go_split_ands))
              go_roundw
              case rel => exact ⟨j + 1, insKn kj I (rdRef r.refs j), A6, A8, A10, c6, c8, c10, by omega, by go_num, HZ10, HL10, HO7, HN7⟩
              case measure => simp [intOf]; omega
            clear hK3
            have HI0 := Aside0.mk (show (kj.refs.take I ++ [rdRef r.refs j] ++ kj.refs.drop I).length = kj.refs.length + 1 by have := HF.out; simp; omega)
            go_region_law (first
              | (go_simp; go_at_call 40; refine (clone_lab_calls A' c' _ _ (Kd.C_below HX4.out.ls (below_drew1 w4)) hsz.out).mono ?_; rintro e w5 ⟨Ax, cx, rfl, ho5, hb0⟩; have hb5 := below_step (below_drew1 w4) hb0; have p0 := pw_cell_below hb5 hx4; have p1 := pw_cell_below hb5 hy4; have p3 := (frozen_of_below hb5 b 0 hbl).trans hf4; have p0a := fun o => pw_cell_below (below_alloc (Below.refl w5.heap.size w5) o) p0)
              | (go_simp; go_at_call 45; refine (insertRef_calls (w0 := w0) (w := w5.alloc (.cells #[.int .i64 (rdRef r.refs j).ref, .slice Ax (rdRef r.refs j).ls.length cx] 62)) kj.refs (rdRef r.refs j) I w5.heap.size (.slice Ax (rdRef r.refs j).ls.length cx) (fun q => w4.heap.size ≤ q) ((HX4.out.st.refs.below hb5).below (below_alloc (Below.refl _ _) _)) HF.out HN1.out (kRef_mkM (Kd.R_below (clone_okp ho5 HX4.out.st.below.size) (below_alloc (Below.refl _ _) _))) (fun q hq => clone_far HX4.out.st.refs q hq) (heap_alloc_new w5 _) (clone_far HX4.out.st.refs w5.heap.size hb5.size) (below_alloc (below_step HX4.out.st.below hb5) _)).mono ?_; rintro e w6 ⟨A6, c6, rfl, i1, i2, i3⟩; have s6 := ins_after ((HX4.out.st.to hb5).to (below_alloc (Below.refl _ _) _)) i2; go_split_ands))
            all_goals exact rest3 _ _ _ _ _ _ (Aside0.mk (((HX4.out.st.to hb5).to (below_alloc (Below.refl _ _) _)).put0 i1 HI0.out i2 i3)) (Aside0.mk (put_other 0 _ ((HX4.out.st.to hb5).to (below_alloc (Below.refl _ _) _)).cells (block_below (block_below HP4.out hb5) (below_alloc (Below.refl _ _) _)) ((HX4.out.st.to hb5).to (below_alloc (Below.refl _ _) _)).refs (by decide) (by decide) (by decide) i2))
    · obtain rfl : j = r.refs.length := by omega
      have hltb : ¬ (r.refs.length : Int) < (r.refs.length : Int) := by omega
      have HE2 := Aside0.mk (show learnRefs k r.refs = (kj, 0) by rw [← HE.out, List.drop_length]; rfl)
      have z2 := cell_last hp.out
      have HLX := Aside0.mk (show learnKn k r = learnPts kj r.pts by rw [learnKn, HE2.out, if_pos rfl])
      clear HE HE2 hp
      go_wp2_with fail
      go_loopw [99] (fun i wr => ∃ (j : Nat) (kp : Kn) (Ar Al Ah : Option Addr) (cr cl ch : Nat), j ≤ r.pts.length ∧ i = .int .i64 j ∧ Aside0 (LSt ws w0 wr b kp Ar Al Ah cr cl ch) ∧ Aside0 (KnOk kp) ∧ Aside0 (learnPts kp (r.pts.drop j) = learnPts kj r.pts)) (fun i _ => r.pts.length - (intOf i).toNat)
      case atStart => exact ⟨0, kj, Ar, Al, Ah, cr, cl, ch, by omega, rfl, HL, HO, ⟨rfl⟩⟩
      case round =>
        clear z2 HL HO
        obtain ⟨j, kp, Ar, Al, Ah, cr, cl, ch, hj, rfl, HL, HO, HE⟩ := hrel
        by_cases hlt : j < r.pts.length
        · have hltb : (j : Int) < (r.pts.length : Int) := by omega
          obtain ⟨ad, rfl, g0, g1, g2⟩ := at_pt (Kd.C_below H1.out HL.out.below) j hlt
          go_wp2_with fail
          have HX := Aside0.mk (HL.out.to (below_alloc (Below.refl wr.heap.size wr) (.cells #[.int .i64 (rdPt r.pts j).ref, .int .i64 (rdPt r.pts j).time, .int .u64 (rdPt r.pts j).bits] 50)))
          have x0 : (wr.alloc (.cells #[.int .i64 (rdPt r.pts j).ref, .int .i64 (rdPt r.pts j).time, .int .u64 (rdPt r.pts j).bits] 50)).cell? ⟨wr.heap.size, 0, none⟩ = some (.int .i64 (rdPt r.pts j).ref) := by rw [row_cell (heap_alloc_new wr _)]; rfl
          have x1 : (wr.alloc (.cells #[.int .i64 (rdPt r.pts j).ref, .int .i64 (rdPt r.pts j).time, .int .u64 (rdPt r.pts j).bits] 50)).cell? ⟨wr.heap.size, 1, none⟩ = some (.int .i64 (rdPt r.pts j).time) := by rw [row_cell (heap_alloc_new wr _)]; rfl
          have hMh := heap_alloc_new wr (.cells #[.int .i64 (rdPt r.pts j).ref, .int .i64 (rdPt r.pts j).time, .int .u64 (rdPt r.pts j).bits] 50)
          clear g0 g1 g2
          generalize wr.heap.size = M at *
          generalize wr.alloc (.cells #[.int .i64 (rdPt r.pts j).ref, .int .i64 (rdPt r.pts j).time, .int .u64 (rdPt r.pts j).bits] 50) = W at *
          have y0 := HX.out.c0
          have y1 := HX.out.c1
          have y2 := HX.out.c2
          by_cases hh : hasRef kp.refs (rdPt r.pts j).ref = true
          · have HH := Aside0.mk hh
            have HF := Aside0.mk (findRef_lt hh)
            clear hh
            go_region_held3 (fun U => U.cell? ⟨b, 0, none⟩ = some (.slice Ar kp.refs.length cr) ∧ U.cell? ⟨b, 1, none⟩ = some (.slice Al kp.lasts.length cl) ∧ U.cell? ⟨b, 2, none⟩ = some (.slice Ah kp.has.length ch) ∧ U.cell? ⟨M, 0, none⟩ = some (.int .i64 (rdPt r.pts j).ref) ∧ U.cell? ⟨M, 1, none⟩ = some (.int .i64 (rdPt r.pts j).time))
              (first | exact keep5 y0 y1 y2 x0 x1 (below_drew1 W) | exact keep5 y0 y1 y2 x0 x1 (below_step (below_drew1 W) hb2) | go_keep)
              (first | (go_at_call 41; refine (find_calls Ar cr kp.refs _ _ _ _ rfl rfl (HX.out.to (below_drew1 W)).readRefs (by have := HO.out.2.2.1; omega)).mono ?_; rw [HH.out]; rintro e w2 ⟨rfl, hb2⟩))
            have HB2 := below_step (below_drew1 W) hb2
            have hMh2 := block_below hMh HB2
            have HX2 := Aside0.mk (HX.out.to HB2)
            have u1 := pw_cell_below HB2 x1
            clear y0 y1 y2 x0 x1 hb2 HB2 hMh
            have hiL : findRef kp.refs (rdPt r.pts j).ref < kp.lasts.length := by have h1 := HF.out; have h2 := HO.out.1; omega
            have hiH : findRef kp.refs (rdPt r.pts j).ref < kp.has.length := by have h1 := HF.out; have h2 := HO.out.2.1; omega
            generalize hI : findRef kp.refs (rdPt r.pts j).ref = I at *
            obtain ⟨gl, rfl, e1, e2, ⟨cl1, e3⟩, _⟩ := Row.scalar_at HX2.out.lasts I hiL
            obtain ⟨gh, rfl, f1, f2, ⟨ch1, f3⟩, _⟩ := Row.scalar_at HX2.out.has I hiH
            have hiLb : (I : Int) < (kp.lasts.length : Int) := by omega
            have hiHb : (I : Int) < (kp.has.length : Int) := by omega
            have v1 := HX2.out.c1
            have v2 := HX2.out.c2
            have n1 : gh ≠ b := ne_types f3 HX2.out.cells (by decide)
            have n2 : gl ≠ b := ne_types e3 HX2.out.cells (by decide)
            have n3 : gh ≠ gl := ne_types f3 e3 (by decide)
            have n4 : gh ≠ M := ne_types f3 hMh2 (by decide)
            have n5 : gl ≠ M := ne_types e3 hMh2 (by decide)
            clear e3 f3 hMh2
            go_wp2_with fail
            have HO9 := Aside0.mk (show KnOk ⟨kp.refs, kp.lasts.set I (rdPt r.pts j).time, kp.has.set I true⟩ by
              obtain ⟨y1, y2, y3, y4⟩ := HO.out
              exact ⟨by simpa using y1, by simpa using y2, y3, y4⟩)
            have hgl : kp.lasts.getD I 0 = kp.lasts[I] := by simp [List.getD_eq_getElem?_getD, List.getElem?_eq_getElem hiL]
            have hgh : kp.has.getD I false = kp.has[I] := by simp [List.getD_eq_getElem?_getD, List.getElem?_eq_getElem hiH]
            by_cases hv : kp.has[I] = true
            · rw [hv] at f1
              by_cases ht : (rdPt r.pts j).time > kp.lasts[I]
              · have HN9 := Aside0.mk (show learnPts ⟨kp.refs, kp.lasts.set I (rdPt r.pts j).time, kp.has.set I true⟩ (r.pts.drop (j + 1)) = learnPts kj r.pts by
                  have hl : learnPt kp (rdPt r.pts j) = (⟨kp.refs, kp.lasts.set I (rdPt r.pts j).time, kp.has.set I true⟩, 0) := by rw [learnPt, if_pos HH.out, hI, hgl, hgh, if_neg (fun h => h.2 ht)]
                  rw [← HE.out, drop_pt hlt, learnPts, hl, if_pos rfl])
                have htb : kp.lasts[I] < (rdPt r.pts j).time := ht
                clear hgl hgh
                go_quiet (fail)
                have q3 := pw_below_drewN (Below.refl w2.heap.size w2) nq
                have HX3 := Aside0.mk (HX2.out.to q3)
                have a1 := pw_cell_below q3 v1
                have a2 := pw_cell_below q3 v2
                have a3 := pw_cell_below q3 u1
                have a4 := pw_cell_below q3 e1
                have a5 : (w2.drewN nq).frozen? ⟨gl, I, none⟩ = false := e2
                have a6 := pw_cell_below q3 f1
                have a7 : (w2.drewN nq).frozen? ⟨gh, I, none⟩ = false := f2
                clear q3 v1 v2 u1 e1 e2 f1 f2 HX2
                generalize w2.drewN nq = w3 at *
                go_wp2_with fail
                go_region_held3 (fun U => U.cell? ⟨b, 1, none⟩ = some (.slice (some ⟨gl, 0, none⟩) kp.lasts.length cl) ∧ U.cell? ⟨b, 2, none⟩ = some (.slice (some ⟨gh, 0, none⟩) kp.has.length ch) ∧ U.cell? ⟨M, 1, none⟩ = some (.int .i64 (rdPt r.pts j).time)) (first | exact ⟨a1, a2, a3⟩ | go_keep) (fail)
                have HLN := Aside0.mk ((HX3.out.setHas hiH true).setLasts hiL (rdPt r.pts j).time)
                clear a1 a2 a3 a4 a5 a6 a7
                generalize (w3.setCell ⟨gh, I, none⟩ (.bool true)).setCell ⟨gl, I, none⟩ (.int .i64 (rdPt r.pts j).time) = w6 at *
                go_wp2_with fail
                go_roundw
                case rel => exact ⟨j + 1, _, Ar, some ⟨gl, 0, none⟩, some ⟨gh, 0, none⟩, cr, cl, ch, by omega, by go_num, ⟨by simpa using HLN.out.to (below_drew1 _)⟩, HO9, HN9⟩
                case measure => simp [intOf]; omega
              · have HN9 := Aside0.mk (show learnPts kp (r.pts.drop (j + 1)) = learnPts kj r.pts by
                  have hl : learnPt kp (rdPt r.pts j) = (kp, 0) := by rw [learnPt, if_pos HH.out, hI, hgl, hgh, if_pos ⟨hv, ht⟩]
                  rw [← HE.out, drop_pt hlt, learnPts, hl, if_pos rfl])
                have htb : ¬ kp.lasts[I] < (rdPt r.pts j).time := ht
                clear hgl hgh HO9
                go_quiet (fail)
                have q3 := pw_below_drewN (Below.refl w2.heap.size w2) nq
                have HX3 := Aside0.mk (HX2.out.to q3)
                have a1 := pw_cell_below q3 v1
                have a2 := pw_cell_below q3 v2
                have a3 := pw_cell_below q3 u1
                have a4 := pw_cell_below q3 e1
                have a5 : (w2.drewN nq).frozen? ⟨gl, I, none⟩ = false := e2
                have a6 := pw_cell_below q3 f1
                have a7 : (w2.drewN nq).frozen? ⟨gh, I, none⟩ = false := f2
                clear q3 v1 v2 u1 e1 e2 f1 f2 HX2
                generalize w2.drewN nq = w3 at *
                go_wp2_with fail
                go_roundw
                case rel => exact ⟨j + 1, kp, Ar, some ⟨gl, 0, none⟩, some ⟨gh, 0, none⟩, cr, cl, ch, by omega, by go_num, HX3, HO, HN9⟩
                case measure => simp [intOf]; omega
            · have HN9 := Aside0.mk (show learnPts ⟨kp.refs, kp.lasts.set I (rdPt r.pts j).time, kp.has.set I true⟩ (r.pts.drop (j + 1)) = learnPts kj r.pts by
                have hl : learnPt kp (rdPt r.pts j) = (⟨kp.refs, kp.lasts.set I (rdPt r.pts j).time, kp.has.set I true⟩, 0) := by rw [learnPt, if_pos HH.out, hI, hgl, hgh, if_neg (fun h => hv h.1)]
                rw [← HE.out, drop_pt hlt, learnPts, hl, if_pos rfl])
              have hv : kp.has[I] = false := by simpa using hv
              rw [hv] at f1
              clear hgl hgh
              go_quiet (fail)
              have q3 := pw_below_drewN (Below.refl w2.heap.size w2) nq
              have HX3 := Aside0.mk (HX2.out.to q3)
              have a1 := pw_cell_below q3 v1
              have a2 := pw_cell_below q3 v2
              have a3 := pw_cell_below q3 u1
              have a4 := pw_cell_below q3 e1
              have a5 : (w2.drewN nq).frozen? ⟨gl, I, none⟩ = false := e2
              have a6 := pw_cell_below q3 f1
              have a7 : (w2.drewN nq).frozen? ⟨gh, I, none⟩ = false := f2
              clear q3 v1 v2 u1 e1 e2 f1 f2 HX2
              generalize w2.drewN nq = w3 at *
              go_wp2_with fail
              go_region_held3 (fun U => U.cell? ⟨b, 1, none⟩ = some (.slice (some ⟨gl, 0, none⟩) kp.lasts.length cl) ∧ U.cell? ⟨b, 2, none⟩ = some (.slice (some ⟨gh, 0, none⟩) kp.has.length ch) ∧ U.cell? ⟨M, 1, none⟩ = some (.int .i64 (rdPt r.pts j).time)) (first | exact ⟨a1, a2, a3⟩ | go_keep) (fail)
              have HLN := Aside0.mk ((HX3.out.setHas hiH true).setLasts hiL (rdPt r.pts j).time)
              clear a1 a2 a3 a4 a5 a6 a7
              generalize (w3.setCell ⟨gh, I, none⟩ (.bool true)).setCell ⟨gl, I, none⟩ (.int .i64 (rdPt r.pts j).time) = w6 at *
              go_wp2_with fail
              go_roundw
              case rel => exact ⟨j + 1, _, Ar, some ⟨gl, 0, none⟩, some ⟨gh, 0, none⟩, cr, cl, ch, by omega, by go_num, ⟨by simpa using HLN.out.to (below_drew1 _)⟩, HO9, HN9⟩
              case measure => simp [intOf]; omega
          · have hh : hasRef kp.refs (rdPt r.pts j).ref = false := by simpa using hh
            have HH := Aside0.mk hh
            clear hh
            have HN := Aside0.mk (show learnKn k r = (kp, 5) by
              have hl : learnPt kp (rdPt r.pts j) = (kp, 5) := by rw [learnPt, if_neg (by rw [HH.out]; decide)]
              rw [HLX.out, ← HE.out, drop_pt hlt, learnPts, hl, if_neg (by exact (by decide : (5 : Int) ≠ 0))])
            go_region_held3 (fun U => U.cell? ⟨b, 0, none⟩ = some (.slice Ar kp.refs.length cr) ∧ U.cell? ⟨b, 1, none⟩ = some (.slice Al kp.lasts.length cl) ∧ U.cell? ⟨b, 2, none⟩ = some (.slice Ah kp.has.length ch) ∧ U.cell? ⟨M, 0, none⟩ = some (.int .i64 (rdPt r.pts j).ref) ∧ U.cell? ⟨M, 1, none⟩ = some (.int .i64 (rdPt r.pts j).time))
              (first | exact keep5 y0 y1 y2 x0 x1 (below_drew1 W) | exact keep5 y0 y1 y2 x0 x1 (below_step (below_drew1 W) hb2) | go_keep)
              (first | (go_at_call 41; refine (find_calls Ar cr kp.refs _ _ _ _ rfl rfl (HX.out.to (below_drew1 W)).readRefs (by have := HO.out.2.2.1; omega)).mono ?_; rw [HH.out]; rintro e w2 ⟨rfl, hb2⟩))
            go_wp2_with fail
            go_ret
            exact ⟨by rw [HN.out]; rfl, by rw [HN.out]; exact HO.out, Ar, Al, Ah, cr, cl, ch, by rw [HN.out]; exact HX.out.to (below_step (below_drew1 W) hb2)⟩
        · obtain rfl : j = r.pts.length := by omega
          have hltb : ¬ (r.pts.length : Int) < (r.pts.length : Int) := by omega
          have HN := Aside0.mk (show learnKn k r = (kp, 0) by rw [HLX.out, ← HE.out, List.drop_length]; rfl)
          go_wp2_with fail
          go_ret
          exact ⟨by rw [HN.out]; rfl, by rw [HN.out]; exact HO.out, Ar, Al, Ah, cr, cl, ch, by rw [HN.out]; exact HL.out⟩
end Go.Proofs.YtgmdgaioiifgnaaGreat
