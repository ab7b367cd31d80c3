/- Rows in general (over any program): copy and append of elements of any size, for slices.Insert. -/
import Derived.Test.YtgmdgaioiifgnaaGreatMem
import Derived.Shelf.Spec.SlicesInsertGrow
set_option linter.unusedVariables false
set_option linter.unusedSimpArgs false
namespace Go.Proofs.YtgmdgaioiifgnaaGreat
open Go.RowKit Go.Proofs.YtgmdgaioiifgnaaGreatW.PrintWords
section
variable {P : Program}
theorem copyK_run (w : World) (dT sT ty elem : TypeId) (sz : Nat) (g o dLen dCap : Nat) (a : Addr) (sLen sCap : Nat) (cur : Array Value) (t : TypeId) (cs : List Value)
    (hu : P.underlying dT = some (.slice elem)) (hs : (P.info? elem).map (·.size) = some sz)
    (hg : w.heap[g]? = some (.cells cur t (0, 0))) (hn : cs.length = Nat.min sLen dLen * sz)
    (hsrc : ∀ j v, cs[j]? = some v → w.cell? (a.add j) = some v) (hfit : o + cs.length ≤ cur.size) (h1 : ∀ v ∈ cs, v.oneCell' = true) :
    (Builtin.copy_ #[dT, sT] ty #[.slice (some ⟨g, o, none⟩) dLen dCap, .slice (some a) sLen sCap]).run P w =
      .ok (goInt (Nat.min sLen dLen)) (w.setRow g (cur.toList.take o ++ cs ++ cur.toList.drop (o + cs.length)).toArray) := by
  have hl := run_firstCells_some (P := P) w sz (Nat.min sLen dLen) a sLen sCap cs hn hsrc
  have hst := run_storeCells_at P g o t cs 0 cur w hg (by simpa using hfit) h1
  cases hq : P.info? elem with
  | none => simp [hq] at hs
  | some i =>
    have hi : i.size = sz := by simpa [hq] using hs
    have hst' : (storeCells ⟨g, o, none⟩ cs).run P w = .ok () (w.setRow g (cur.toList.take o ++ cs ++ cur.toList.drop (o + cs.length)).toArray) := by simpa using hst
    simp [Builtin.copy_, run_underlying hu, Builtin.lenOf, sizeOf, typeInfo, hq, hi, hl, hst']
/-- The cells of a row. -/
theorem row_cell {w : World} {g : Nat} {cur : Array Value} {t : TypeId} {fr : Nat × Nat} (h : w.heap[g]? = some (.cells cur t fr)) (j : Nat) : w.cell? ⟨g, j, none⟩ = cur.toList[j]? := by
  simp [World.cell?, h]
/-- The rows behind the two copies of slices.Insert, its place being free. -/
def insRow1 (L xs : List Value) (k sz : Nat) : List Value := L.take (k + sz) ++ xs.drop k ++ L.drop (k + sz + (xs.length - k))
def insRow2 (L xs ys : List Value) (k sz : Nat) : List Value := (insRow1 L xs k sz).take k ++ ys ++ (insRow1 L xs k sz).drop (k + sz)
theorem insRow1_length {L xs : List Value} {k sz : Nat} (h : xs.length + sz ≤ L.length) (hk : k ≤ xs.length) : (insRow1 L xs k sz).length = L.length := by
  simp [insRow1]; omega
theorem insRow2_length {L xs ys : List Value} {k sz : Nat} (h : xs.length + sz ≤ L.length) (hk : k ≤ xs.length) (hy : ys.length = sz) : (insRow2 L xs ys k sz).length = L.length := by
  have := insRow1_length h hk
  simp [insRow2, this]; omega
theorem insRow2_take {L xs ys : List Value} {k sz : Nat} (hL : L.take xs.length = xs) (h : xs.length + sz ≤ L.length) (hk : k ≤ xs.length) (hy : ys.length = sz) : (insRow2 L xs ys k sz).take (xs.length + sz) = xs.take k ++ ys ++ xs.drop k := by
  have h1 : (insRow1 L xs k sz).take k = xs.take k := by
    rw [insRow1, List.append_assoc, List.take_append_of_le_length (by simp; omega), List.take_take, ← hL, List.take_take]
    congr 1
    simp; omega
  have h2 : (insRow1 L xs k sz).drop (k + sz) = xs.drop k ++ L.drop (k + sz + (xs.length - k)) := by
    rw [insRow1, List.append_assoc]
    have : (L.take (k + sz)).length = k + sz := by simp; omega
    rw [List.drop_append_of_le_length (by omega), List.drop_eq_nil_of_le (by omega), List.nil_append]
  rw [insRow2, h1, h2, List.append_assoc, ← List.append_assoc ys, ← List.append_assoc (xs.take k)]
  have h3 : (xs.take k ++ (ys ++ xs.drop k)).length = xs.length + sz := by simp; omega
  rw [show xs.length + sz = (xs.take k ++ (ys ++ xs.drop k)).length from h3.symm, List.take_left, List.append_assoc]
theorem getq_drop {xs L : List Value} {k j : Nat} {v : Value} (hL : L.take xs.length = xs) (h : (xs.drop k)[j]? = some v) : L[k + j]? = some v := by
  rw [List.getElem?_drop] at h
  have hlt : k + j < xs.length := by
    rcases Nat.lt_or_ge (k + j) xs.length with h1 | h1
    · exact h1
    · rw [List.getElem?_eq_none h1] at h; cases h
  rw [← hL, List.getElem?_take_of_lt hlt] at h
  exact h
def insA (L ys : List Value) (k : Nat) : List Value := L.take k ++ ys ++ L.drop (k + ys.length)
def insB (L xs ys : List Value) (k : Nat) : List Value := (insA L ys k).take (k + ys.length) ++ xs.drop k ++ (insA L ys k).drop (k + ys.length + (xs.length - k))
theorem insA_length {L ys : List Value} {k : Nat} (h : k + ys.length ≤ L.length) : (insA L ys k).length = L.length := by simp [insA]; omega
theorem insB_length {L xs ys : List Value} {k : Nat} (h : xs.length + ys.length ≤ L.length) (hk : k ≤ xs.length) : (insB L xs ys k).length = L.length := by
  have := insA_length (L := L) (ys := ys) (k := k) (by omega)
  simp [insB, this]; omega
theorem insB_take {L xs ys : List Value} {k : Nat} (hL : L.take k = xs.take k) (h : xs.length + ys.length ≤ L.length) (hk : k ≤ xs.length) : (insB L xs ys k).take (xs.length + ys.length) = xs.take k ++ ys ++ xs.drop k := by
  have h0 : (L.take k ++ ys).length = k + ys.length := by simp; omega
  have h1 : (insA L ys k).take (k + ys.length) = xs.take k ++ ys := by
    rw [insA, ← hL, ← h0, List.take_left]
  rw [insB, h1]
  have h3 : (xs.take k ++ ys ++ xs.drop k).length = xs.length + ys.length := by simp; omega
  rw [← h3, List.take_left]
/-- What slices.Insert leaves. -/
def InsPost (base : Nat) (e : TypeId) (sz : Nat) (w : World) (v : Value) (n : Nat) (zs : List Value) (en : Ending) (w' : World) : Prop :=
  ∃ v', en = .returned v' ∧ w'.ownsRow base e sz v' n zs ∧ w.grownBy w' v.ownBlock ∧ (v'.ownBlock = v.ownBlock ∨ ∃ b, v'.ownBlock = some b ∧ w.heap.size ≤ b)
/-- A row of its own block. -/
theorem Ins.own {w : World} {base N G sz n : Nat} {e : TypeId} {L xs : List Value} (hb : base ≤ N) (hh : w.heap[N]? = some (.cells L.toArray e (0, 0))) (hG : G ≤ maxLen) (hn : n ≤ G) (hl : L.length = G * sz) (hx : L.take (n * sz) = xs) : w.ownsRow base e sz (.slice (some ⟨N, 0, none⟩) n G) n xs := by
  have h1 : n * sz ≤ G * sz := Nat.mul_le_mul_right _ hn
  exact ⟨by rw [← hx, List.length_take, hl]; omega, .inr ⟨N, G, L.toArray, rfl, hb, hh, hn, hG, by rw [List.size_toArray, hl], hx⟩⟩
theorem grown_setRow {w w1 : World} {row : Option Nat} (h : w.grownBy w1 row) (g : Nat) (cs : Array Value) (hg : row = some g ∨ w.heap.size ≤ g) : w.grownBy (w1.setRow g cs) row :=
  ⟨h.os, h.tape, h.output, by simp [World.setRow]; exact h.size, fun k hk hr => by
    rw [setRow_other _ _ _ _ (fun he => by
      subst he
      rcases hg with hg | hg
      · exact hr hg.symm
      · omega)]
    exact h.block k hk hr⟩
theorem grown_drew {w w1 : World} {row : Option Nat} (h : w.grownBy w1 row) : w.grownBy w1.drew row := ⟨h.os, h.tape, h.output, h.size, h.block⟩
theorem grown_alloc {w w1 : World} {row : Option Nat} (h : w.grownBy w1 row) (o : Obj) : w.grownBy (w1.alloc o) row :=
  ⟨h.os, h.tape, h.output, by rw [World.alloc]; simp; exact Nat.le_succ_of_le h.size, fun k hk hr => by
    rw [← h.block k hk hr, heap_alloc_old w1 o (Nat.lt_of_lt_of_le hk h.size)]⟩
end
end Go.Proofs.YtgmdgaioiifgnaaGreat
