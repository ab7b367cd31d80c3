/- What TopLogged holds while it goes on. -/
import Derived.Test.YtgmdgaioiifgnaaGreatBeg
set_option linter.unusedVariables false
set_option linter.unusedSimpArgs false
namespace Go.Proofs.YtgmdgaioiifgnaaGreat
open Go.RowKit Go.Proofs.YtgmdgaioiifgnaaGreatW.PrintWords
/-! ### the input: records -/
def kRc : Kd Rc := Kd.iso (Kd.pair (Kd.int .i64) (Kd.pair (Kd.slice 62 kRef) (Kd.slice 50 kPt))) (fun x : Rc => (x.kind, x.refs, x.pts))
def zRc : Rc := ⟨0, [], []⟩
def rdRc (xs : List Rc) (i : Nat) : Rc := xs.getD i zRc
theorem rdRc_eq {l : List Rc} {k : Nat} (hk : k < l.length) : rdRc l k = l[k] := by simp [rdRc, List.getD_eq_getElem?_getD, List.getElem?_eq_getElem hk]
theorem kRc_open {w : World} {x : Rc} {cs : List Value} (h : kRc.K w x cs) : ∃ A0 c0 A1 c1, cs = [.int .i64 x.kind, .slice A0 x.refs.length c0, .slice A1 x.pts.length c1] ∧ RcV w (.agg #[.int .i64 x.kind, .slice A0 x.refs.length c0, .slice A1 x.pts.length c1]) x := by
  obtain ⟨_, _, rfl, rfl, _, _, rfl, ⟨A0, c0, rfl, h0, g0⟩, ⟨A1, c1, rfl, h1, g1⟩⟩ := h
  exact ⟨A0, c0, A1, c1, rfl, ⟨A0, c0, A1, c1, rfl, h0, h1, g0, g1⟩⟩
theorem at_rc {w : World} {A : Option Addr} {n : Nat} {xs : List Rc} (h : kRc.C w A n xs) (i : Nat) (h1 : i < n) : ∃ ad A0 c0 A1 c1, A = some ad ∧ w.cell? (ad.add (i * 3)) = some (.int .i64 (rdRc xs i).kind) ∧ w.cell? ⟨(ad.add (i * 3)).block, (ad.add (i * 3)).off + 1, none⟩ = some (.slice A0 (rdRc xs i).refs.length c0) ∧ w.cell? ⟨(ad.add (i * 3)).block, (ad.add (i * 3)).off + 2, none⟩ = some (.slice A1 (rdRc xs i).pts.length c1) ∧
    RcV w (.agg #[.int .i64 (rdRc xs i).kind, .slice A0 (rdRc xs i).refs.length c0, .slice A1 (rdRc xs i).pts.length c1]) (rdRc xs i) := by
  obtain ⟨ad, c, e, _, hK, hc0⟩ := Kd.C_get h zRc (i : Int) (by omega) (by omega)
  rw [Int.toNat_natCast] at hK hc0
  obtain ⟨A0, c0, A1, c1, rfl, hv⟩ := kRc_open hK
  exact ⟨ad, A0, c0, A1, c1, e, hc0 0 _ rfl, by rw [← add_field _ _ 1 (by omega)]; exact hc0 1 _ rfl, by rw [← add_field _ _ 2 (by omega)]; exact hc0 2 _ rfl, hv⟩
/-! ### the row of what was known -/
abbrev Tri := Value × Value × Value
def Tri.cs (x : Tri) : List Value := [x.1, x.2.1, x.2.2]
def TriK (x : Tri) (cs : List Value) : Prop := cs = [x.1, x.2.1, x.2.2] ∧ x.1.oneCell' = true ∧ x.2.1.oneCell' = true ∧ x.2.2.oneCell' = true
def kTri : Kd Tri where
  sz := 3
  E := []
  K := fun _ x cs => TriK x cs
  M := fun _ _ _ x cs => TriK x cs
  K_len := fun h => by rw [h.1]; rfl
  K_one := fun h u hu => by
    rw [h.1] at hu
    rcases List.mem_cons.1 hu with hu | hu
    · rw [hu]; exact h.2.1
    · rcases List.mem_cons.1 hu with hu | hu
      · rw [hu]; exact h.2.2.1
      · rw [List.mem_singleton.1 hu]; exact h.2.2.2
  K_below := fun _ h => h
  K_of_M := fun h => h
  M_mono := fun _ h => h
  M_bound := fun h => h
  M_move := fun _ h => h
  M_lower := fun _ h => h
def zTri : Tri := (.slice none 0 0, .slice none 0 0, .slice none 0 0)
theorem at_tri {w : World} {A : Option Addr} {n : Nat} {xs : List Tri} (h : kTri.C w A n xs) (i : Nat) (h1 : i < n) : ∃ ad, A = some ad ∧ w.cell? (ad.add (i * 3)) = some (xs.getD i zTri).1 ∧ w.cell? ⟨(ad.add (i * 3)).block, (ad.add (i * 3)).off + 1, none⟩ = some (xs.getD i zTri).2.1 ∧ w.cell? ⟨(ad.add (i * 3)).block, (ad.add (i * 3)).off + 2, none⟩ = some (xs.getD i zTri).2.2 := by
  obtain ⟨ad, c, e, _, hK, hc0⟩ := Kd.C_get h zTri (i : Int) (by omega) (by omega)
  rw [Int.toNat_natCast] at hK hc0
  obtain ⟨rfl, _⟩ := hK
  exact ⟨ad, e, hc0 0 _ rfl, by rw [← add_field _ _ 1 (by omega)]; exact hc0 1 _ rfl, by rw [← add_field _ _ 2 (by omega)]; exact hc0 2 _ rfl⟩
theorem infoKn : (Tryz.prog.info? 28).map (fun i => (i.zero, i.size, i.bytes)) = some (some (.agg #[.slice none 0 0, .slice none 0 0, .slice none 0 0]), 3, 72) := by kernel_rfl
theorem KnO.tri {w0 w : World} {a b c : Value} {k : Kn} (h : KnO w0 w a b c k) : TriK (a, b, c) [a, b, c] := by
  obtain ⟨Ar, cr, rfl⟩ := Kd.R_slice h.refs
  obtain ⟨Al, cl, rfl⟩ := Kd.R_slice h.lasts
  obtain ⟨Ah, ch, rfl⟩ := Kd.R_slice h.has
  exact ⟨rfl, rfl, rfl, rfl⟩
/-- A block of type Known is written, or a row of Knowns has grown. -/
theorem KnO.typed {w0 w w1 : World} {a b c : Value} {k : Kn} (h : KnO w0 w a b c k) {g : Nat} {cells : Array Value} (hb : w.heap[g]? = some (.cells cells 28 (0, 0))) (hg : w.grownBy w1 (some g)) : KnO w0 w1 a b c k :=
  ⟨Row.typed h.refs hb noKn_ref hg, Row.typed h.lasts hb noKn_int hg, Row.typed h.has hb noKn_bool hg⟩
theorem KnO.apartKn {w0 w w1 : World} {a b c : Value} {k : Kn} (h : KnO w0 w a b c k) {q n : Nat} {u : Value} {ys : List Value} (ho : w.ownsRow q 28 3 u n ys) (hg : w.grownBy w1 u.ownBlock) : KnO w0 w1 a b c k :=
  ⟨h.refs.apart ho (by decide) hg, h.lasts.apart ho (by decide) hg, h.has.apart ho (by decide) hg⟩
theorem R_apart {α : Type} {d : Kd α} {e : Nat} {w w1 : World} {base : Nat} {ok : Nat → Prop} {v : Value} {xs : List α} (h : d.R e w base ok v xs) {b e1 size n : Nat} {u : Value} {ys : List Value} (ho : w.ownsRow b e1 size u n ys) (ht : e1 ∉ e :: d.E) (hg : w.grownBy w1 u.ownBlock) : d.R e w1 base ok v xs := by
  have h1 := Kd.R_bound h
  have h2 := Kd.R_move (w1 := w1) h1 (fun k hk => hg.block k hk.2.2.1 (fun he => by
    obtain ⟨_, _, _, q, hq, cells, hc⟩ := hk
    obtain ⟨cells', hc'⟩ := own_typed ho k he.symm
    rw [hc] at hc'
    injection hc' with hc'
    injection hc' with _ hc'
    exact ht (hc' ▸ hq)))
  exact Kd.R_mono h2 (fun _ hk => hk.1)
/-- A row of ints, another row of ints having grown. -/
theorem Row.ints {w0 w w1 : World} {v u : Value} {xs : List Int} (h : Row (Kd.int .i64) 3 w0 w v xs) (hne : ∀ q, v.ownBlock = some q → some q ≠ u.ownBlock) (hg : w.grownBy w1 u.ownBlock) : Row (Kd.int .i64) 3 w0 w1 v xs := by
  have h1 : (Kd.int .i64).R 3 w w0.heap.size (fun q => some q ≠ u.ownBlock) v xs := ⟨hne, h.2⟩
  exact Kd.R_mono (Kd.R_grown h1 hg (fun k hk => hk)) (fun _ _ => trivial)
theorem KnO.apartInt {w0 w w1 : World} {a b c : Value} {k : Kn} (h : KnO w0 w a b c k) {q n : Nat} {u : Value} {ys : List Value} (ho : w.ownsRow q 3 1 u n ys) (hg : w.grownBy w1 u.ownBlock) (hne : ∀ q, b.ownBlock = some q → some q ≠ u.ownBlock) : KnO w0 w1 a b c k :=
  ⟨h.refs.apart ho (by decide) hg, h.lasts.ints hne hg, h.has.apart ho (by decide) hg⟩
/-- What TopLogged holds. -/
structure TS (w wr : World) (kb : Nat) (rs : List Rc) (a b c : Value) (Ak Ae : Option Addr) (ck ce : Nat) (tris : List Tri) : Prop where
  big : w.heap.size ≤ kb
  kc : wr.heap[kb]? = some (.cells #[a, b, c] 28 (0, 0))
  last : tris.getD rs.length zTri = (a, b, c)
  ok : KnOk (kFold zKn rs)
  fit : ∀ r ∈ rs, RcFit r ∧ (packB r).size ≤ 20000
  chain : Chain zKn rs
  known : kTri.R 28 wr w.heap.size (fun q => q ≠ kb) (.slice Ak tris.length ck) tris
  tl : tris.length = rs.length + 1
  kns : ∀ j, j ≤ rs.length → KnO w wr (tris.getD j zTri).1 (tris.getD j zTri).2.1 (tris.getD j zTri).2.2 (kFold zKn (rs.take j))
  apt : ∀ j, j ≤ rs.length → ∀ q, (tris.getD j zTri).2.1.ownBlock = some q → some q ≠ (Value.slice Ae (rs.length + 1) ce).ownBlock
  ends : Row (Kd.int .i64) 3 w wr (.slice Ae (rs.length + 1) ce) (0 :: endsL [] (rs.map packB))
  below : Below w.heap.size w wr
theorem TS.to {w wr w1 : World} {kb : Nat} {rs : List Rc} {a b c : Value} {Ak Ae : Option Addr} {ck ce : Nat} {tris : List Tri} (h : TS w wr kb rs a b c Ak Ae ck ce tris) (hb : Below wr.heap.size wr w1) : TS w w1 kb rs a b c Ak Ae ck ce tris :=
  ⟨h.big, block_below' h.kc hb, h.last, h.ok, h.fit, h.chain, Kd.R_below h.known hb, h.tl, fun j hj => (h.kns j hj).below hb, h.apt, h.ends.below hb, below_step h.below hb⟩
theorem TS.own {w wr : World} {kb : Nat} {rs : List Rc} {a b c : Value} {Ak Ae : Option Addr} {ck ce : Nat} {tris : List Tri} (h : TS w wr kb rs a b c Ak Ae ck ce tris) : KnO w wr a b c (kFold zKn rs) := by
  have := h.kns rs.length (Nat.le_refl _)
  rw [h.last, List.take_length] at this
  exact this
/-- One record more is known, but not yet in the rows. -/
structure TM (w wr : World) (kb : Nat) (rs : List Rc) (r : Rc) (a b c : Value) (Ak Ae : Option Addr) (ck ce : Nat) (tris : List Tri) : Prop where
  big : w.heap.size ≤ kb
  kc : wr.heap[kb]? = some (.cells #[a, b, c] 28 (0, 0))
  new : KnO w wr a b c (learnKn (kFold zKn rs) r).1
  ok : KnOk (learnKn (kFold zKn rs) r).1
  can : (learnKn (kFold zKn rs) r).2 = 0
  rfit : RcFit r ∧ (packB r).size ≤ 20000
  fit : ∀ r ∈ rs, RcFit r ∧ (packB r).size ≤ 20000
  chain : Chain zKn rs
  known : kTri.R 28 wr w.heap.size (fun q => q ≠ kb) (.slice Ak tris.length ck) tris
  tl : tris.length = rs.length + 1
  kns : ∀ j, j ≤ rs.length → KnO w wr (tris.getD j zTri).1 (tris.getD j zTri).2.1 (tris.getD j zTri).2.2 (kFold zKn (rs.take j))
  apt : ∀ j, j ≤ rs.length → ∀ q, (tris.getD j zTri).2.1.ownBlock = some q → some q ≠ (Value.slice Ae (rs.length + 1) ce).ownBlock
  napt : ∀ q, b.ownBlock = some q → some q ≠ (Value.slice Ae (rs.length + 1) ce).ownBlock
  ends : Row (Kd.int .i64) 3 w wr (.slice Ae (rs.length + 1) ce) (0 :: endsL [] (rs.map packB))
  below : Below w.heap.size w wr
theorem row_kb {w wr : World} {v : Value} {xs : List Int} {kb : Nat} {a b c : Value} (h : Row (Kd.int .i64) 3 w wr v xs) (hk : wr.heap[kb]? = some (.cells #[a, b, c] 28 (0, 0))) : some kb ≠ v.ownBlock := Kd.R_ne h hk (by decide)
/-- k = x. -/
theorem TS.store {w wr : World} {kb : Nat} {rs : List Rc} {r : Rc} {a b c a2 b2 c2 : Value} {Ak Ae : Option Addr} {ck ce : Nat} {tris : List Tri} (h : TS w wr kb rs a b c Ak Ae ck ce tris) {k2 : Kn} (hk2 : (learnKn (kFold zKn rs) r).1 = k2) (hn : KnO w wr a2 b2 c2 k2) (hok : KnOk k2) (hc : (learnKn (kFold zKn rs) r).2 = 0) (hf : RcFit r ∧ (packB r).size ≤ 20000)
    (hap : ∀ q, b2.ownBlock = some q → some q ≠ (Value.slice Ae (rs.length + 1) ce).ownBlock) : TM w (wr.setRow kb #[a2, b2, c2]) kb rs r a2 b2 c2 Ak Ae ck ce tris := by
  subst hk2
  have hg : wr.grownBy (wr.setRow kb #[a2, b2, c2]) (some kb) := grown_setRow (World.grownBy.refl wr _) _ _ (.inl rfl)
  exact ⟨h.big, setRow_heap _ _ _ _ _ _ h.kc, hn.typed h.kc hg, hok, hc, hf, h.fit, h.chain, Kd.R_grown h.known hg (fun k hk he => hk (Option.some.inj he)), h.tl, fun j hj => (h.kns j hj).typed h.kc hg, h.apt, hap, Row.typed h.ends h.kc noKn_int hg, h.below.grown hg h.below.size (fun i hi => by injection hi with hi; rw [← hi]; exact h.big)⟩
theorem TM.to {w wr w1 : World} {kb : Nat} {rs : List Rc} {r : Rc} {a b c : Value} {Ak Ae : Option Addr} {ck ce : Nat} {tris : List Tri} (h : TM w wr kb rs r a b c Ak Ae ck ce tris) (hb : Below wr.heap.size wr w1) : TM w w1 kb rs r a b c Ak Ae ck ce tris :=
  ⟨h.big, block_below' h.kc hb, h.new.below hb, h.ok, h.can, h.rfit, h.fit, h.chain, Kd.R_below h.known hb, h.tl, fun j hj => (h.kns j hj).below hb, h.apt, h.napt, h.ends.below hb, below_step h.below hb⟩
/-- known = append(known, k), and what that leaves of the rest. -/
structure TN (w wr : World) (kb : Nat) (rs : List Rc) (r : Rc) (a b c : Value) (v : Value) (Ae : Option Addr) (ce : Nat) (tris : List Tri) : Prop where
  big : w.heap.size ≤ kb
  kc : wr.heap[kb]? = some (.cells #[a, b, c] 28 (0, 0))
  new : KnO w wr a b c (learnKn (kFold zKn rs) r).1
  ok : KnOk (learnKn (kFold zKn rs) r).1
  can : (learnKn (kFold zKn rs) r).2 = 0
  rfit : RcFit r ∧ (packB r).size ≤ 20000
  fit : ∀ r ∈ rs, RcFit r ∧ (packB r).size ≤ 20000
  chain : Chain zKn rs
  known : kTri.R 28 wr w.heap.size (fun q => q ≠ kb) v (tris ++ [(a, b, c)])
  tl : tris.length = rs.length + 1
  kns : ∀ j, j ≤ rs.length → KnO w wr (tris.getD j zTri).1 (tris.getD j zTri).2.1 (tris.getD j zTri).2.2 (kFold zKn (rs.take j))
  apt : ∀ j, j ≤ rs.length → ∀ q, (tris.getD j zTri).2.1.ownBlock = some q → some q ≠ (Value.slice Ae (rs.length + 1) ce).ownBlock
  napt : ∀ q, b.ownBlock = some q → some q ≠ (Value.slice Ae (rs.length + 1) ce).ownBlock
  ends : Row (Kd.int .i64) 3 w wr (.slice Ae (rs.length + 1) ce) (0 :: endsL [] (rs.map packB))
  below : Below w.heap.size w wr
theorem TM.push {w wr w5 : World} {kb : Nat} {rs : List Rc} {r : Rc} {a b c v : Value} {Ak Ae : Option Addr} {ck ce : Nat} {tris : List Tri} (h : TM w wr kb rs r a b c Ak Ae ck ce tris) (h1 : kTri.R 28 w5 w.heap.size (fun q => q ≠ kb) v (tris ++ [(a, b, c)])) (hb : Below w.heap.size w w5) (hg : wr.grownBy w5 (Value.slice Ak tris.length ck).ownBlock) : TN w w5 kb rs r a b c v Ae ce tris := by
  obtain ⟨inner, ho⟩ := Kd.R_own h.known
  exact ⟨h.big, (hg.block kb (Array.getElem?_eq_some_iff.1 h.kc).1 (fun he => h.known.1 kb he.symm rfl)).trans h.kc, h.new.apartKn ho hg, h.ok, h.can, h.rfit, h.fit, h.chain, h1, h.tl, fun j hj => (h.kns j hj).apartKn ho hg, h.apt, h.napt, h.ends.apart ho (by decide) hg, hb⟩
theorem getD_snoc_lt {α : Type} {l : List α} {x z : α} {j : Nat} (h : j < l.length) : (l ++ [x]).getD j z = l.getD j z := by
  rw [List.getD_eq_getElem?_getD, List.getD_eq_getElem?_getD, List.getElem?_append_left h]
theorem getD_snoc_end {α : Type} {l : List α} {x z : α} {j : Nat} (h : j = l.length) : (l ++ [x]).getD j z = x := by
  rw [List.getD_eq_getElem?_getD, h, List.getElem?_append_right (Nat.le_refl _)]; simp
theorem TN.push {w wr w6 : World} {kb : Nat} {rs : List Rc} {r : Rc} {a b c : Value} {Ak Ae : Option Addr} {ck ce : Nat} {tris : List Tri} {Ae2 : Option Addr} {ce2 : Nat} (h : TN w wr kb rs r a b c (.slice Ak (tris ++ [(a, b, c)]).length ck) Ae ce tris)
    (h1 : Row (Kd.int .i64) 3 w w6 (.slice Ae2 (rs.length + 1 + 1) ce2) (0 :: endsL [] (rs.map packB) ++ [((logL [] ((rs ++ [r]).map packB)).length : Int)])) (hb : Below w.heap.size w w6) (hg : wr.grownBy w6 (Value.slice Ae (rs.length + 1) ce).ownBlock)
    (hat : (Value.slice Ae2 (rs.length + 1 + 1) ce2).ownBlock = (Value.slice Ae (rs.length + 1) ce).ownBlock ∨ ∃ q, (Value.slice Ae2 (rs.length + 1 + 1) ce2).ownBlock = some q ∧ wr.heap.size ≤ q) : TS w w6 kb (rs ++ [r]) a b c Ak Ae2 ck ce2 (tris ++ [(a, b, c)]) := by
  obtain ⟨inner, ho⟩ := Kd.R_own h.ends
  have hlen : (rs ++ [r]).length = rs.length + 1 := by simp
  have hk1 : kFold zKn (rs ++ [r]) = (learnKn (kFold zKn rs) r).1 := by rw [kFold_app]; rfl
  have far : ∀ (u : Value) (x : List Int), Row (Kd.int .i64) 3 w wr u x → (∀ q, u.ownBlock = some q → some q ≠ (Value.slice Ae (rs.length + 1) ce).ownBlock) → ∀ q, u.ownBlock = some q → some q ≠ (Value.slice Ae2 (rs.length + 1 + 1) ce2).ownBlock := by
    intro u x hu h0 q hq
    rcases hat with hat | ⟨p, hp, hle⟩
    · rw [hat]; exact h0 q hq
    · rw [hp]
      intro he
      injection he with he
      have := ((Kd.R_bound hu).1 q hq).2.2.1
      omega
  have lt : ∀ {j : Nat}, j ≤ rs.length → j < tris.length := fun hj => by have := h.tl; omega
  refine ⟨h.big, ?_, ?_, by rw [hk1]; exact h.ok, fun x hx => ?_, Chain.app.2 ⟨h.chain, h.can, trivial⟩, R_apart h.known ho (by decide) hg, by rw [List.length_append, h.tl, hlen]; rfl, fun j hj => ?_, fun j hj => ?_, ?_, hb⟩
  · exact (hg.block kb (Array.getElem?_eq_some_iff.1 h.kc).1 (row_kb h.ends h.kc)).trans h.kc
  · exact getD_snoc_end (by rw [hlen, h.tl])
  · rcases List.mem_append.1 hx with hx | hx
    · exact h.fit x hx
    · rw [List.mem_singleton.1 hx]; exact h.rfit
  · by_cases hlt : j ≤ rs.length
    · rw [getD_snoc_lt (lt hlt), List.take_append_of_le_length hlt]
      exact (h.kns j hlt).apartInt ho hg (h.apt j hlt)
    · have hje : j = rs.length + 1 := by omega
      rw [getD_snoc_end (by rw [h.tl, hje]), List.take_of_length_le (by omega), hk1]
      exact h.new.apartInt ho hg h.napt
  · rw [hlen]
    by_cases hlt : j ≤ rs.length
    · rw [getD_snoc_lt (lt hlt)]
      exact far _ _ (h.kns j hlt).lasts (h.apt j hlt)
    · have hje : j = rs.length + 1 := by omega
      rw [getD_snoc_end (by rw [h.tl, hje])]
      exact far _ _ h.new.lasts h.napt
  · rw [hlen, List.map_append, List.map_singleton, endsL_app]
    rw [List.map_append, List.map_singleton, logL_app] at h1
    exact h1
/-- Behind record.Learn: the answer lies in a variable of its own. -/
structure TL (w U : World) (kb N : Nat) (rs : List Rc) (r : Rc) (a b c xa xb xc : Value) (Ak Ae : Option Addr) (ck ce : Nat) (tris : List Tri) : Prop where
  ts : TS w U kb rs a b c Ak Ae ck ce tris
  blk : U.heap[N]? = some (.cells #[xa, xb, xc] 28 (0, 0))
  own : KnO w U xa xb xc (learnAll (kFold zKn rs) r).1
  ok : KnOk (learnAll (kFold zKn rs) r).1
  apt : ∀ q, xb.ownBlock = some q → some q ≠ (Value.slice Ae (rs.length + 1) ce).ownBlock
theorem TL.to {w U V : World} {kb N : Nat} {rs : List Rc} {r : Rc} {a b c xa xb xc : Value} {Ak Ae : Option Addr} {ck ce : Nat} {tris : List Tri} (h : TL w U kb N rs r a b c xa xb xc Ak Ae ck ce tris) (hb : Below U.heap.size U V) : TL w V kb N rs r a b c xa xb xc Ak Ae ck ce tris :=
  ⟨h.ts.to hb, block_below' h.blk hb, h.own.below hb, h.ok, h.apt⟩
theorem apt_new {w wr W0 w4 : World} {rs : List Rc} {xa xb xc : Value} {k : Kn} {Ae : Option Addr} {ce : Nat} {es : List Int} (he : Row (Kd.int .i64) 3 w wr (.slice Ae (rs.length + 1) ce) es) (hs : wr.heap.size ≤ W0.heap.size) (hk : KnO W0 w4 xa xb xc k) : ∀ q, xb.ownBlock = some q → some q ≠ (Value.slice Ae (rs.length + 1) ce).ownBlock := by
  intro q hq h
  have h1 := ((Kd.R_bound hk.lasts).1 q hq).2.1
  have h2 := ((Kd.R_bound he).1 q h.symm).2.2.1
  omega
/-- The variable was laid behind the call. -/
theorem TL.late {w wr w4 : World} {kb : Nat} {rs : List Rc} {r : Rc} {a b c xa xb xc : Value} {Ak Ae : Option Addr} {ck ce : Nat} {tris : List Tri} (h : TS w wr kb rs a b c Ak Ae ck ce tris) (hb4 : Below wr.drew.heap.size wr.drew w4) (hk : KnO wr.drew w4 xa xb xc (learnAll (kFold zKn rs) r).1) (hok : KnOk (learnAll (kFold zKn rs) r).1) :
    TL w (w4.alloc (.cells #[xa, xb, xc] 28)) kb w4.heap.size rs r a b c xa xb xc Ak Ae ck ce tris := by
  have hb := below_alloc (below_step (below_drew (Below.refl wr.heap.size wr)) hb4) (.cells #[xa, xb, xc] 28)
  have hz : w.heap.size ≤ wr.drew.heap.size := h.below.size
  exact ⟨h.to hb, heap_alloc_new _ _, KnO.below ⟨hk.refs.lower hz, hk.lasts.lower hz, hk.has.lower hz⟩ (below_alloc (Below.refl _ _) _), hok, apt_new (W0 := wr.drew) h.ends (Nat.le_refl _) hk⟩
/-- The variable was laid ahead of the call. -/
theorem TL.early {w wr W0 w4 : World} {kb : Nat} {rs : List Rc} {r : Rc} {a b c xa xb xc : Value} {Ak Ae : Option Addr} {ck ce : Nat} {tris : List Tri} (h : TS w wr kb rs a b c Ak Ae ck ce tris) (hW : W0 = wr.drew.alloc (.cells #[.slice none 0 0, .slice none 0 0, .slice none 0 0] 28)) (hb4 : Below W0.heap.size W0 w4) (hk : KnO W0 w4 xa xb xc (learnAll (kFold zKn rs) r).1) (hok : KnOk (learnAll (kFold zKn rs) r).1) :
    w4.heap[wr.heap.size]? = some (.cells #[.slice none 0 0, .slice none 0 0, .slice none 0 0] 28 (0, 0)) ∧ TL w (w4.setRow wr.heap.size #[xa, xb, xc]) kb wr.heap.size rs r a b c xa xb xc Ak Ae ck ce tris := by
  have h1 : W0.heap[wr.heap.size]? = some (.cells #[.slice none 0 0, .slice none 0 0, .slice none 0 0] 28 (0, 0)) := by rw [hW]; exact heap_alloc_new wr.drew _
  have h0 : Below wr.heap.size wr W0 := by rw [hW]; exact below_alloc (below_drew (Below.refl _ _)) _
  have h4 := block_below' h1 hb4
  have hg : w4.grownBy (w4.setRow wr.heap.size #[xa, xb, xc]) (some wr.heap.size) := grown_setRow (World.grownBy.refl w4 _) _ _ (.inl rfl)
  have hb5 : Below wr.heap.size wr (w4.setRow wr.heap.size #[xa, xb, xc]) := (below_step h0 hb4).grown hg (below_step h0 hb4).size (fun i hi => by injection hi with hi; omega)
  have hz : w.heap.size ≤ W0.heap.size := Nat.le_trans h.below.size h0.size
  exact ⟨h4, h.to hb5, setRow_heap _ _ _ _ _ _ h4, KnO.typed ⟨hk.refs.lower hz, hk.lasts.lower hz, hk.has.lower hz⟩ h4 hg, hok, apt_new h.ends h0.size hk⟩
/-! ### how long a packed record is -/
theorem refB_size (x : Rf) (h1 : 1 ≤ x.ref ∧ x.ref ≤ 1000000) (h2 : checkLab x.ls = 0) : (refB x).size ≤ 4420 := by
  obtain ⟨a, b⟩ := check_small h2
  have h3 := labsB_size (l := x.ls) x.ls.length (Nat.le_refl _) (fun j hj => ⟨(b j hj).1, (b j hj).2⟩)
  rw [List.take_length] at h3
  have h4 := numberB_le x.ref (by omega) (by omega)
  have h5 := numberB_le x.ls.length (by omega) (by omega)
  rw [refB, ByteArray.size_append, ByteArray.size_append]
  omega
theorem ptB_size (p : Pt) (h1 : 1 ≤ p.ref ∧ p.ref ≤ 1000000) (h2 : -9007199254740991 ≤ p.time ∧ p.time ≤ 9007199254740991) : (ptB p).size ≤ 28 := by
  have h4 := numberB_le p.ref (by omega) (by omega)
  have h5 := numberB_le (zig p.time) (by unfold zig; split <;> omega) (by unfold zig; split <;> omega)
  rw [ptB, ByteArray.size_append, ByteArray.size_append, strOfNums_size]
  have : (wordI p.bits).length = 8 := rfl
  omega
theorem refsB_size : ∀ l : List Rf, (∀ x ∈ l, (refB x).size ≤ 4420) → (refsB l).size ≤ 4420 * l.length
  | [], _ => by decide
  | x :: l, h => by
    have h1 := refsB_size l (fun y hy => h y (List.mem_cons_of_mem _ hy))
    have h2 := h x List.mem_cons_self
    rw [refsB, ByteArray.size_append, List.length_cons]
    omega
theorem ptsB_size : ∀ l : List Pt, (∀ x ∈ l, (ptB x).size ≤ 28) → (ptsB l).size ≤ 28 * l.length
  | [], _ => by decide
  | x :: l, h => by
    have h1 := ptsB_size l (fun y hy => h y (List.mem_cons_of_mem _ hy))
    have h2 := h x List.mem_cons_self
    rw [ptsB, ByteArray.size_append, List.length_cons]
    omega
theorem packB_small {r : Rc} (h : checkRc r = 0) : (packB r).size ≤ 1000000 := by
  have ho := rc_ok h
  have n1 := numberB_le r.refs.length (by omega) (by have := ho.nrefs; omega)
  have n2 := numberB_le r.pts.length (by omega) (by have := ho.npts; omega)
  have h1 := refsB_size r.refs (fun x hx => by
    obtain ⟨j, hj, rfl⟩ := List.getElem_of_mem hx
    have := ho.refs j hj
    rw [rdRef_eq hj] at this
    exact refB_size _ ⟨this.1, this.2.1⟩ this.2.2.2)
  have h2 := ptsB_size r.pts (fun x hx => by
    obtain ⟨j, hj, rfl⟩ := List.getElem_of_mem hx
    have := ho.pts j hj
    rw [rdPt_eq hj] at this
    exact ptB_size _ ⟨this.1, this.2.1⟩ ⟨this.2.2.1, this.2.2.2⟩)
  have e1 : (⟨#[1]⟩ : ByteArray).size = 1 := rfl
  have e2 : (⟨#[2]⟩ : ByteArray).size = 1 := rfl
  have := ho.nrefs
  have := ho.npts
  unfold packB
  split <;> rw [ByteArray.size_append, ByteArray.size_append] <;> omega
theorem learnAll_ok {k : Kn} {r : Rc} (h : (learnAll k r).2 = 0) : checkRc r = 0 ∧ (learnKn k r).2 = 0 ∧ (learnAll k r).1 = (learnKn k r).1 := by
  unfold learnAll at h ⊢
  by_cases h1 : checkKn k ≠ 0
  · rw [if_pos h1] at h; exact absurd h h1
  · rw [if_neg h1] at h ⊢
    by_cases h2 : checkRc r ≠ 0
    · rw [if_pos h2] at h; exact absurd h h2
    · rw [if_neg h2] at h ⊢
      by_cases h3 : (learnKn k r).2 ≠ 0
      · rw [if_pos h3] at h; exact absurd h h3
      · rw [if_neg h3]
        exact ⟨by omega, by omega, rfl⟩
/-! ### behind the loop -/
structure TA (w wr : World) (N : Nat) (rs : List Rc) (xa xb xc : Value) (Ak Ae : Option Addr) (ck ce : Nat) (tris : List Tri) : Prop where
  big : w.heap.size ≤ N
  blk : wr.heap[N]? = some (.cells #[xa, xb, xc] 28 (0, 0))
  known : kTri.R 28 wr w.heap.size (fun q => q ≠ N) (.slice Ak tris.length ck) tris
  tl : tris.length = rs.length + 1
  kns : ∀ j, j ≤ rs.length → KnO w wr (tris.getD j zTri).1 (tris.getD j zTri).2.1 (tris.getD j zTri).2.2 (kFold zKn (rs.take j))
  ends : Row (Kd.int .i64) 3 w wr (.slice Ae (rs.length + 1) ce) (0 :: endsL [] (rs.map packB))
  below : Below w.heap.size w wr
theorem TA.to {w wr w1 : World} {N : Nat} {rs : List Rc} {a b c : Value} {Ak Ae : Option Addr} {ck ce : Nat} {tris : List Tri} (h : TA w wr N rs a b c Ak Ae ck ce tris) (hb : Below wr.heap.size wr w1) : TA w w1 N rs a b c Ak Ae ck ce tris :=
  ⟨h.big, block_below' h.blk hb, Kd.R_below h.known hb, h.tl, fun j hj => (h.kns j hj).below hb, h.ends.below hb, below_step h.below hb⟩
theorem TS.after {w wr : World} {kb : Nat} {rs : List Rc} {a b c xa xb xc : Value} {Ak Ae : Option Addr} {ck ce : Nat} {tris : List Tri} (h : TS w wr kb rs a b c Ak Ae ck ce tris) : TA w (wr.alloc (.cells #[xa, xb, xc] 28)) wr.heap.size rs xa xb xc Ak Ae ck ce tris := by
  have hb := below_alloc (Below.refl wr.heap.size wr) (.cells #[xa, xb, xc] 28)
  have hk : kTri.R 28 wr w.heap.size (fun q => q ≠ wr.heap.size) (.slice Ak tris.length ck) tris := Kd.R_mono (Kd.R_bound h.known) (fun k hk => by have := hk.2.2.1; omega)
  exact ⟨h.below.size, heap_alloc_new _ _, Kd.R_below hk hb, h.tl, fun j hj => (h.kns j hj).below hb, h.ends.below hb, below_step h.below hb⟩
theorem TA.store {w wr : World} {N : Nat} {rs : List Rc} {a b c a2 b2 c2 : Value} {Ak Ae : Option Addr} {ck ce : Nat} {tris : List Tri} (h : TA w wr N rs a b c Ak Ae ck ce tris) : TA w (wr.setRow N #[a2, b2, c2]) N rs a2 b2 c2 Ak Ae ck ce tris := by
  have hg : wr.grownBy (wr.setRow N #[a2, b2, c2]) (some N) := grown_setRow (World.grownBy.refl wr _) _ _ (.inl rfl)
  exact ⟨h.big, setRow_heap _ _ _ _ _ _ h.blk, Kd.R_grown h.known hg (fun k hk he => hk (Option.some.inj he)), h.tl, fun j hj => (h.kns j hj).typed h.blk hg, Row.typed h.ends h.blk noKn_int hg, h.below.grown hg h.below.size (fun i hi => by injection hi with hi; rw [← hi]; exact h.big)⟩
/-! ### the plain law, for the records' own packing -/
theorem takeWhile_all {α : Type} {p : α → Bool} : ∀ {l : List α}, (∀ x ∈ l, p x = true) → l.takeWhile p = l
  | [], _ => rfl
  | x :: l, h => by rw [List.takeWhile_cons, if_pos (h x List.mem_cons_self), takeWhile_all (fun y hy => h y (List.mem_cons_of_mem _ hy))]
theorem endsL_le : ∀ (ps : List ByteArray) (L : List UInt8) (e : Int), e ∈ endsL L ps → e ≤ ((logL L ps).length : Int)
  | p :: ps, L, e, h => by
    rcases List.mem_cons.1 h with h | h
    · obtain ⟨E, hE⟩ := logL_ext ps (appGo true L p)
      rw [h, logL, hE, List.length_append]
      omega
    · exact endsL_le ps _ e h
theorem wholeN_all (ps : List ByteArray) : wholeN ps ((logL [] ps).length : Int) = ps.length := by
  rw [wholeN, takeWhile_all (fun e he => by simpa using endsL_le ps [] e he), endsL_length]
theorem read_whole (ps : List ByteArray) : readAll ⟨(logL [] ps).toArray⟩ = ps.zip (endsL [] ps) := by
  have h := read_cut ps (logL [] ps).length (Nat.le_refl _)
  rw [wholeN_all, List.take_length, List.take_length, List.take_of_length_le (by rw [endsL_length]; exact Nat.le_refl _)] at h
  exact h
theorem endAt_cons (es : List Int) (j : Nat) : endAt es j = (0 :: es).getD j 0 := by
  unfold endAt
  cases j with
  | zero => rfl
  | succ j => simp
theorem endsL_last : ∀ (ps : List ByteArray) (L : List UInt8), ((L.length : Int) :: endsL L ps).getD ps.length 0 = ((logL L ps).length : Int)
  | [], L => rfl
  | p :: ps, L => by
    rw [List.length_cons, List.getD_cons_succ, endsL, logL]
    exact endsL_last ps (appGo true L p)
theorem endAt_whole (rs : List Rc) : endAt (endsL [] (rs.map packB)) rs.length = ((logL [] (rs.map packB)).length : Int) := by
  rw [endAt_cons]
  have := endsL_last (rs.map packB) []
  rw [List.length_map] at this
  exact this
theorem endAt_take {es : List Int} {m : Nat} : endAt (es.take m) m = (0 :: es).getD m 0 := by
  rw [endAt_cons]
  cases m with
  | zero => rfl
  | succ m => simp [List.getElem?_take]
end Go.Proofs.YtgmdgaioiifgnaaGreat
