/- slices.Insert at the level of kinds. -/
import Derived.Test.YtgmdgaioiifgnaaGreatIns
import Derived.Test.YtgmdgaioiifgnaaGreatRec
set_option linter.unusedVariables false
set_option linter.unusedSimpArgs false
namespace Go.Proofs.YtgmdgaioiifgnaaGreat
open Go.RowKit Go.Proofs.YtgmdgaioiifgnaaGreatW.PrintWords
theorem Row.inserted {α : Type} {d : Kd α} {e i : Nat} {w0 W w1 : World} {v v1 : Value} {xs : List α} {p : α} {inner cs : List Value} {okp : Nat → Prop} (hr : Reps (d.M W w0.heap.size (fun k => True ∧ some k ≠ v.ownBlock)) d.sz xs inner) (hi : i ≤ xs.length) (hp : d.M W w0.heap.size okp p cs) (hokp : ∀ k, okp k → some k ≠ v.ownBlock)
    (hown : w1.ownsRow w0.heap.size e d.sz v1 (xs.length + 1) (inner.take (i * d.sz) ++ cs ++ inner.drop (i * d.sz))) (hg : W.grownBy w1 v.ownBlock) (hat : v1.ownBlock = v.ownBlock ∨ ∃ b, v1.ownBlock = some b ∧ W.heap.size ≤ b) : Row d e w0 w1 v1 (xs.take i ++ [p] ++ xs.drop i) := by
  have hne : ∀ k, some k ≠ v.ownBlock → k < W.heap.size → some k ≠ v1.ownBlock := by
    intro k hk hlt
    rcases hat with hat | ⟨b, hb, hle⟩
    · rw [hat]; exact hk
    · rw [hb]
      intro he
      injection he with he
      omega
  have step : ∀ {q : α} {c : List Value} {o : Nat → Prop}, d.M W w0.heap.size o q c → (∀ k, o k → some k ≠ v.ownBlock) → d.M w1 w0.heap.size (fun k => True ∧ some k ≠ v1.ownBlock) q c := by
    intro q c o hq ho
    have h1 := d.M_move (w1 := w1) (fun k hk => hg.block k hk.2.2.1 (ho k hk.1)) (d.M_bound hq)
    exact d.M_mono (fun k hk => ⟨trivial, hne k (ho k hk.1) hk.2.2.1⟩) h1
  have hr' := hr.imp_ (R' := d.M w1 w0.heap.size (fun k => True ∧ some k ≠ v1.ownBlock)) (fun _ _ hq => step hq (fun _ hk => hk.2))
  have hcl := d.K_len (d.K_of_M hp)
  refine ⟨fun k hk => trivial, _, ?_, Kd.reps_append (Reps.snoc (Kd.reps_take hr' hi) (step hp hokp) hcl) (Kd.reps_drop hr')⟩
  have hl : (xs.take i ++ [p] ++ xs.drop i).length = xs.length + 1 := by simp; omega
  rw [hl]
  exact hown
theorem reps_one {α : Type} {d : Kd α} {W : World} {base : Nat} {ok : Nat → Prop} {xs : List α} {inner : List Value} (hs : 0 < d.sz) (hr : Reps (d.M W base ok) d.sz xs inner) : ∀ u ∈ inner, u.oneCell' = true := by
  intro u hu
  obtain ⟨q, hq, rfl⟩ := List.mem_iff_getElem.1 hu
  have hj : q / d.sz < xs.length := Nat.div_lt_of_lt_mul (by rw [Nat.mul_comm, ← hr.1]; exact hq)
  have h1 := hr.2 (q / d.sz) _ (List.getElem?_eq_getElem hj)
  have hm : q / d.sz * d.sz + q % d.sz = q := by rw [Nat.mul_comm]; exact Nat.div_add_mod q d.sz
  refine d.K_one (d.K_of_M h1) _ (List.mem_iff_getElem?.2 ⟨q % d.sz, ?_⟩)
  rw [List.getElem?_take_of_lt (Nat.mod_lt q hs), List.getElem?_drop, hm, List.getElem?_eq_getElem hq]
section
variable {w0 w : World} {v : Value}
theorem insertRef_calls (xs : List Rf) (x : Rf) (i vb : Nat) (c : Value) (okp : Nat → Prop) (h : Row kRef 62 w0 w v xs) (hi : i ≤ xs.length) (hn : xs.length ≤ 1000000) (hc : kRef.M w w0.heap.size okp x [.int .i64 x.ref, c]) (hokp : ∀ k, okp k → some k ≠ v.ownBlock) (hvb : w.heap[vb]? = some (.cells #[.int .i64 x.ref, c] 62 (0, 0))) (hne : some vb ≠ v.ownBlock) (hB : Below w0.heap.size w0 w) :
    Calls Tryz.prog 45 #[v, .int .i64 i, .slice (some ⟨vb, 0, none⟩) 1 1] w fun e w' => ∃ A' c', e = .returned (.slice A' (xs.length + 1) c') ∧ Row kRef 62 w0 w' (.slice A' (xs.length + 1) c') (xs.take i ++ [x] ++ xs.drop i) ∧ w.grownBy w' v.ownBlock ∧ Below w0.heap.size w0 w' := by
  obtain ⟨_, inner, hown, hr⟩ := h
  refine (insert_ref_calls w0.heap.size w xs.length i vb v inner _ hi hB.size (by omega) hown rfl hvb hne (reps_one (by decide) hr) (kRef.K_one (kRef.K_of_M hc))).mono ?_
  rintro e w' ⟨v', rfl, h1, h2, h3⟩
  have h4 := Row.inserted (cs := [.int .i64 x.ref, c]) hr hi hc hokp h1 h2 h3
  obtain ⟨A', c', h5⟩ := Kd.R_slice h4
  have hl : (xs.take i ++ [x] ++ xs.drop i).length = xs.length + 1 := by simp; omega
  rw [hl] at h5
  subst h5
  exact ⟨A', c', rfl, h4, h2, hB.grown h2 hB.size (fun k hk => own_base hown k hk)⟩
theorem insertInt_calls (xs : List Int) (x : Int) (i vb : Nat) (h : Row (Kd.int .i64) 3 w0 w v xs) (hi : i ≤ xs.length) (hn : xs.length ≤ 1000000) (hvb : w.heap[vb]? = some (.cells #[.int .i64 x] 3 (0, 0))) (hne : some vb ≠ v.ownBlock) (hB : Below w0.heap.size w0 w) :
    Calls Tryz.prog 46 #[v, .int .i64 i, .slice (some ⟨vb, 0, none⟩) 1 1] w fun e w' => ∃ A' c', e = .returned (.slice A' (xs.length + 1) c') ∧ Row (Kd.int .i64) 3 w0 w' (.slice A' (xs.length + 1) c') (xs.take i ++ [x] ++ xs.drop i) ∧ w.grownBy w' v.ownBlock ∧ Below w0.heap.size w0 w' := by
  obtain ⟨_, inner, hown, hr⟩ := h
  refine (insert_int_calls w0.heap.size w xs.length i vb v inner [.int .i64 x] hi hB.size (by omega) hown rfl hvb hne (reps_one (by decide) hr) (by intro q hq; rw [List.mem_singleton.1 hq]; rfl)).mono ?_
  rintro e w' ⟨v', rfl, h1, h2, h3⟩
  have h4 := Row.inserted (d := (Kd.int .i64)) (p := x) (cs := [.int .i64 x]) (okp := fun _ => False) hr hi rfl (fun _ h => h.elim) h1 h2 h3
  obtain ⟨A', c', h5⟩ := Kd.R_slice h4
  have hl : (xs.take i ++ [x] ++ xs.drop i).length = xs.length + 1 := by simp; omega
  rw [hl] at h5
  subst h5
  exact ⟨A', c', rfl, h4, h2, hB.grown h2 hB.size (fun k hk => own_base hown k hk)⟩
theorem insertBool_calls (xs : List Bool) (x : Bool) (i vb : Nat) (h : Row Kd.bool 4 w0 w v xs) (hi : i ≤ xs.length) (hn : xs.length ≤ 1000000) (hvb : w.heap[vb]? = some (.cells #[.bool x] 4 (0, 0))) (hne : some vb ≠ v.ownBlock) (hB : Below w0.heap.size w0 w) :
    Calls Tryz.prog 47 #[v, .int .i64 i, .slice (some ⟨vb, 0, none⟩) 1 1] w fun e w' => ∃ A' c', e = .returned (.slice A' (xs.length + 1) c') ∧ Row Kd.bool 4 w0 w' (.slice A' (xs.length + 1) c') (xs.take i ++ [x] ++ xs.drop i) ∧ w.grownBy w' v.ownBlock ∧ Below w0.heap.size w0 w' := by
  obtain ⟨_, inner, hown, hr⟩ := h
  refine (insert_bool_calls w0.heap.size w xs.length i vb v inner [.bool x] hi hB.size (by omega) hown rfl hvb hne (reps_one (by decide) hr) (by intro q hq; rw [List.mem_singleton.1 hq]; rfl)).mono ?_
  rintro e w' ⟨v', rfl, h1, h2, h3⟩
  have h4 := Row.inserted (d := Kd.bool) (p := x) (cs := [.bool x]) (okp := fun _ => False) hr hi rfl (fun _ h => h.elim) h1 h2 h3
  obtain ⟨A', c', h5⟩ := Kd.R_slice h4
  have hl : (xs.take i ++ [x] ++ xs.drop i).length = xs.length + 1 := by simp; omega
  rw [hl] at h5
  subst h5
  exact ⟨A', c', rfl, h4, h2, hB.grown h2 hB.size (fun k hk => own_base hown k hk)⟩
end
end Go.Proofs.YtgmdgaioiifgnaaGreat
