/- The kinds of api.Point and api.Record. -/
import Derived.Test.YtgmdgaioiifgnaaGreatRec
set_option linter.unusedVariables false
set_option linter.unusedSimpArgs false
namespace Go.Proofs.YtgmdgaioiifgnaaGreat
open Go.RowKit Go.Proofs.YtgmdgaioiifgnaaGreatW.PrintWords
structure Pt where
  ref : Int
  time : Int
  bits : Int
  deriving DecidableEq
def zPt : Pt := ⟨0, 0, 0⟩
def kPt : Kd Pt := Kd.iso (Kd.pair (Kd.int .i64) (Kd.pair (Kd.int .i64) (Kd.int .u64))) (fun x : Pt => (x.ref, x.time, x.bits))
theorem kPt_open {w : World} {x : Pt} {cs : List Value} (h : kPt.K w x cs) : cs = [.int .i64 x.ref, .int .i64 x.time, .int .u64 x.bits] := by
  obtain ⟨_, _, rfl, rfl, _, _, rfl, rfl, rfl⟩ := h
  exact rfl
theorem kPt_mkM (w : World) (base : Nat) (ok : Nat → Prop) (x : Pt) : kPt.M w base ok x [.int .i64 x.ref, .int .i64 x.time, .int .u64 x.bits] := ⟨[.int .i64 x.ref], [.int .i64 x.time, .int .u64 x.bits], rfl, rfl, [.int .i64 x.time], [.int .u64 x.bits], rfl, rfl, rfl⟩
def rdPt (xs : List Pt) (i : Nat) : Pt := xs.getD i zPt
theorem rdPt_eq {l : List Pt} {k : Nat} (hk : k < l.length) : rdPt l k = l[k] := by simp [rdPt, List.getD_eq_getElem?_getD, List.getElem?_eq_getElem hk]
theorem at_pt {w : World} {A : Option Addr} {n : Nat} {xs : List Pt} (h : kPt.C w A n xs) (i : Nat) (h1 : i < n) : ∃ ad, A = some ad ∧ w.cell? (ad.add (i * 3)) = some (.int .i64 (rdPt xs i).ref) ∧ w.cell? ⟨(ad.add (i * 3)).block, (ad.add (i * 3)).off + 1, none⟩ = some (.int .i64 (rdPt xs i).time) ∧ w.cell? ⟨(ad.add (i * 3)).block, (ad.add (i * 3)).off + 2, none⟩ = some (.int .u64 (rdPt xs i).bits) := by
  obtain ⟨ad, c, e, _, hK, hc0⟩ := Kd.C_get h zPt (i : Int) (by omega) (by omega)
  rw [Int.toNat_natCast] at hK hc0
  obtain rfl := kPt_open hK
  exact ⟨ad, e, hc0 0 _ rfl, by rw [← add_field _ _ 1 (by omega)]; exact hc0 1 _ rfl, by rw [← add_field _ _ 2 (by omega)]; exact hc0 2 _ rfl⟩
structure Rc where
  kind : Int
  refs : List Rf
  pts : List Pt
  deriving DecidableEq
/-- A record, as a value that is read. -/
def RcV (w : World) (v : Value) (r : Rc) : Prop := ∃ A0 c0 A1 c1, v = .agg #[.int .i64 r.kind, .slice A0 r.refs.length c0, .slice A1 r.pts.length c1] ∧ r.refs.length ≤ c0 ∧ r.pts.length ≤ c1 ∧ kRef.C w A0 r.refs.length r.refs ∧ kPt.C w A1 r.pts.length r.pts
theorem RcV.below {w w1 : World} {v : Value} {r : Rc} (h : RcV w v r) (hb : Below w.heap.size w w1) : RcV w1 v r := by
  obtain ⟨A0, c0, A1, c1, e, l0, l1, h0, h1⟩ := h
  exact ⟨A0, c0, A1, c1, e, l0, l1, Kd.C_below h0 hb, Kd.C_below h1 hb⟩
end Go.Proofs.YtgmdgaioiifgnaaGreat
