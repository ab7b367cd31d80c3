/- What record.Pack makes of a record: plain. -/
import Derived.Test.YtgmdgaioiifgnaaGreatCheck
import Derived.Test.YtgmdgaioiifgnaaGreatText
set_option linter.unusedVariables false
set_option linter.unusedSimpArgs false
namespace Go.Proofs.YtgmdgaioiifgnaaGreat
open Go.RowKit Go.Proofs.YtgmdgaioiifgnaaGreatW.PrintWords
def txtB (s : ByteArray) : ByteArray := numberB s.size ++ s
def labB (x : Lab) : ByteArray := txtB x.n ++ txtB x.v
def labsB : List Lab → ByteArray
  | [] => ⟨#[]⟩
  | x :: l => labB x ++ labsB l
def refB (x : Rf) : ByteArray := numberB x.ref ++ numberB x.ls.length ++ labsB x.ls
def refsB : List Rf → ByteArray
  | [] => ⟨#[]⟩
  | x :: l => refB x ++ refsB l
def ptB (p : Pt) : ByteArray := numberB p.ref ++ numberB (zig p.time) ++ strOfNums (wordI p.bits)
def ptsB : List Pt → ByteArray
  | [] => ⟨#[]⟩
  | x :: l => ptB x ++ ptsB l
def packB (r : Rc) : ByteArray := if r.kind = 1 then ⟨#[1]⟩ ++ numberB r.refs.length ++ refsB r.refs else ⟨#[2]⟩ ++ numberB r.pts.length ++ ptsB r.pts
def packRc (r : Rc) : ByteArray × Int := if checkRc r ≠ 0 then (⟨#[]⟩, checkRc r) else (packB r, 0)
theorem emp_append (s : ByteArray) : (⟨#[]⟩ : ByteArray) ++ s = s := by
  have := ByteArray.empty_append (b := s)
  exact this
theorem append_emp (s : ByteArray) : s ++ (⟨#[]⟩ : ByteArray) = s := by
  have := ByteArray.append_empty (b := s)
  exact this
theorem labsB_snoc (l : List Lab) (x : Lab) : labsB (l ++ [x]) = labsB l ++ labB x := by
  induction l with
  | nil => simp [labsB, emp_append, append_emp]
  | cons y l ih => simp only [List.cons_append, labsB, ih, ByteArray.append_assoc]
theorem refsB_snoc (l : List Rf) (x : Rf) : refsB (l ++ [x]) = refsB l ++ refB x := by
  induction l with
  | nil => simp [refsB, emp_append, append_emp]
  | cons y l ih => simp only [List.cons_append, refsB, ih, ByteArray.append_assoc]
theorem ptsB_snoc (l : List Pt) (x : Pt) : ptsB (l ++ [x]) = ptsB l ++ ptB x := by
  induction l with
  | nil => simp [ptsB, emp_append, append_emp]
  | cons y l ih => simp only [List.cons_append, ptsB, ih, ByteArray.append_assoc]
theorem labsB_take {l : List Lab} {k : Nat} (h : k < l.length) : labsB (l.take (k + 1)) = labsB (l.take k) ++ labB (rdLab l k) := by rw [List.take_succ_eq_append_getElem h, labsB_snoc, ← rdLab_eq h]
theorem refsB_take {l : List Rf} {k : Nat} (h : k < l.length) : refsB (l.take (k + 1)) = refsB (l.take k) ++ refB (rdRef l k) := by rw [List.take_succ_eq_append_getElem h, refsB_snoc, ← rdRef_eq h]
theorem ptsB_take {l : List Pt} {k : Nat} (h : k < l.length) : ptsB (l.take (k + 1)) = ptsB (l.take k) ++ ptB (rdPt l k) := by rw [List.take_succ_eq_append_getElem h, ptsB_snoc, ← rdPt_eq h]
/-- What a record that is right is like. -/
structure RcOk (r : Rc) : Prop where
  kind : (r.kind = 1 ∧ r.pts = []) ∨ (r.kind = 2 ∧ r.refs = [])
  nrefs : r.refs.length ≤ 200
  npts : r.pts.length ≤ 200
  refs : ∀ j, j < r.refs.length → 1 ≤ (rdRef r.refs j).ref ∧ (rdRef r.refs j).ref ≤ 1000000 ∧ (rdRef r.refs j).ls.length ≠ 0 ∧ checkLab (rdRef r.refs j).ls = 0
  pts : ∀ j, j < r.pts.length → 1 ≤ (rdPt r.pts j).ref ∧ (rdPt r.pts j).ref ≤ 1000000 ∧ -9007199254740991 ≤ (rdPt r.pts j).time ∧ (rdPt r.pts j).time ≤ 9007199254740991
theorem firstErr_all {l : List Rf} (h : firstErr l = 0) : ∀ x ∈ l, checkRf x = 0 := by
  induction l with
  | nil => intro x hx; cases hx
  | cons y l ih =>
    intro x hx
    unfold firstErr at h
    by_cases hy : checkRf y = 0
    · rw [if_pos hy] at h
      rcases List.mem_cons.1 hx with rfl | hx
      · exact hy
      · exact ih h x hx
    · rw [if_neg hy] at h; exact absurd h hy
theorem checkRf_ok {x : Rf} (h : checkRf x = 0) : 1 ≤ x.ref ∧ x.ref ≤ 1000000 ∧ x.ls.length ≠ 0 ∧ checkLab x.ls = 0 := by
  unfold checkRf at h
  split at h
  · exact absurd h (by decide)
  · rename_i h1
    split at h
    · exact absurd h (by decide)
    · rename_i h2
      have : isRefB x.ref = true := by simpa using h1
      simp only [isRefB, Bool.and_eq_true, decide_eq_true_eq] at this
      exact ⟨this.1, this.2, h2, h⟩
theorem rc_ok {r : Rc} (h : checkRc r = 0) : RcOk r := by
  unfold checkRc at h
  split at h
  · exact absurd h (by decide)
  · rename_i h1
    split at h
    · exact absurd h (by decide)
    · rename_i h2
      split at h
      · exact absurd h (by decide)
      · rename_i h3
        have hk : r.kind = 1 ∨ r.kind = 2 := by omega
        by_cases hf : firstErr r.refs = 0
        · rw [if_pos hf] at h
          have hp : r.pts.any badPt = false := by
            cases hh : r.pts.any badPt
            · rfl
            · rw [hh] at h; exact absurd h (by decide)
          refine ⟨?_, by omega, by omega, fun j hj => ?_, fun j hj => ?_⟩
          · rcases hk with hk | hk
            · exact .inl ⟨hk, List.eq_nil_of_length_eq_zero (by omega)⟩
            · exact .inr ⟨hk, List.eq_nil_of_length_eq_zero (by omega)⟩
          · rw [rdRef_eq hj]; exact checkRf_ok (firstErr_all hf _ (List.getElem_mem hj))
          · rw [rdPt_eq hj]
            have := List.any_eq_false.1 hp _ (List.getElem_mem hj)
            simp only [badPt, isRefB, isTimeB, Bool.not_eq_true, Bool.not_eq_false', Bool.and_eq_true, decide_eq_true_eq] at this
            omega
        · rw [if_neg hf] at h; exact absurd h hf
theorem numberB_le (n : Int) (h0 : 0 ≤ n) (h1 : n ≤ 18446744073709551615) : (numberB n).size ≤ 10 := numberB_size n h0 h1
theorem txtB_size (s : ByteArray) (h : s.size ≤ 100) : (txtB s).size ≤ 110 := by
  rw [txtB, ByteArray.size_append]
  have := numberB_le s.size (by omega) (by omega)
  omega
theorem labsB_size {l : List Lab} : ∀ k, k ≤ l.length → (∀ j, j < l.length → (rdLab l j).n.size ≤ 40 ∧ (rdLab l j).v.size ≤ 100) → (labsB (l.take k)).size ≤ 220 * k
  | 0, _, _ => by simp [labsB]; rfl
  | k + 1, hk, h => by
    rw [labsB_take (by omega), ByteArray.size_append, labB, ByteArray.size_append]
    have := labsB_size k (by omega) h
    have h1 := h k (by omega)
    have h2 := txtB_size _ (show (rdLab l k).n.size ≤ 100 by omega)
    have h3 := txtB_size _ h1.2
    omega
end Go.Proofs.YtgmdgaioiifgnaaGreat
