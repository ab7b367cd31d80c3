/- Rows of the call's own (over any program): what an append does to one, and that the others stay. -/
import Derived.Test.YtgmdgaioiifgnaaGreatWWords
set_option linter.unusedVariables false
set_option linter.unusedSimpArgs false
namespace Go.Proofs.YtgmdgaioiifgnaaGreat
open Go.RowKit Go.Proofs.YtgmdgaioiifgnaaGreatW.PrintWords
/-- A row of elements of type e that a call has made since w0. -/
def Row {α : Type} (d : Kd α) (e : Nat) (w0 w : World) (v : Value) (xs : List α) : Prop := d.R e w w0.heap.size (fun _ => True) v xs
section
variable {α : Type} {d : Kd α} {e : Nat} {w0 w w1 : World} {v : Value} {xs : List α}
theorem Row.nil (d : Kd α) (e : Nat) (w0 w : World) : Row d e w0 w (.slice none 0 0) [] := Kd.R_nil _ _ _ _ _
theorem Row.below (h : Row d e w0 w v xs) (hb : Below w.heap.size w w1) : Row d e w0 w1 v xs := Kd.R_below h hb
theorem Row.reads (h : Row d e w0 w v xs) : ∃ A c, v = .slice A xs.length c ∧ xs.length ≤ c ∧ d.C w A xs.length xs := Kd.R_reads h
/-- Another row, of a type that does not occur in this one, has been written. -/
theorem Row.apart (h : Row d e w0 w v xs) {b e1 size n : Nat} {u : Value} {ys : List Value} (ho : w.ownsRow b e1 size u n ys) (ht : e1 ∉ e :: d.E) (hg : w.grownBy w1 u.ownBlock) : Row d e w0 w1 v xs := by
  have h1 := Kd.R_bound h
  have h2 := Kd.R_move (w1 := w1) h1 (fun k hk => hg.block k hk.2.2.1 (fun he => by
    obtain ⟨_, _, _, q, hq, cells, hc⟩ := hk
    obtain ⟨cells', hc'⟩ := own_typed ho k he.symm
    rw [hc] at hc'
    injection hc' with hc'
    injection hc' with _ hc'
    exact ht (hc' ▸ hq)))
  exact Kd.R_mono h2 (fun _ _ => trivial)
theorem Row.lower {w2 : World} (h : Row d e w0 w v xs) (hs : w2.heap.size ≤ w0.heap.size) : Row d e w2 w v xs := Kd.R_lower h hs
end
section
variable {P : Program} {ops : Array Oper} {rest : List Oper} {o : Oper} {a : Act} {Q : Exit → Act → World → Prop} {α : Type}
/-- append(v, x). -/
theorem row_append (d : Kd α) {t e : TypeId} {z : Value} {bytes : Nat} (ht : P.underlying t = some (.slice e)) (hinfo : (P.info? e).map (fun i => (i.zero, i.size, i.bytes)) = some (some z, d.sz, bytes)) (hz : z.cells.size = d.sz) (hs0 : 0 < d.sz) (hb0 : 0 < bytes)
    {w0 W : World} (s x : Operand) (hgd : o.guard = none) (ho : o.op = .call { callee := .builtin .append, args := #[s, x], argTypes := #[t, t] }) (v : Value) (xs : List α) (p : α) (cs : List Value) (hs : a.eval s = v) (hx : a.eval x = .slice (some ⟨W.heap.size, 0, none⟩) 1 1)
    (okp : Nat → Prop) (hp : d.M W w0.heap.size okp p cs) (hokp : ∀ k, okp k → some k ≠ v.ownBlock) (HO : Row d e w0 W v xs) (HB : Below w0.heap.size w0 W) (hl : (xs.length + 1) * bytes ≤ 140737488355328)
    (h : ∀ v1 w1, Row d e w0 w1 v1 (xs ++ [p]) → Below w0.heap.size w0 w1 → W.grownBy w1 v.ownBlock → wpList P ops Q rest (a.put o.dst v1) w1) :
    wpList P ops Q (o :: rest) a (W.alloc (.cells cs.toArray e)) :=
  Kd.R_append d (w0 := w0) w0.heap.size hgd s x t e z bytes ho ht hinfo hz hs0 hb0 v xs p cs (fun _ => True) okp hs hx hp (fun k hk => ⟨trivial, hokp k hk⟩) (fun _ _ => trivial) HO HB HB.size hl (fun v1 w1 h1 h2 h3 _ => h v1 w1 h1 h2 h3)
end
end Go.Proofs.YtgmdgaioiifgnaaGreat
