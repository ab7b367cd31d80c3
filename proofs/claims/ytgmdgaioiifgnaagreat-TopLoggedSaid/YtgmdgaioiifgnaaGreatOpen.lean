/- What came in, opened kind by kind (over any program): its cells, and that its texts are not too long. -/
import Derived.Test.YtgmdgaioiifgnaaGreatTopk
import Derived.Deep.Slices
import Derived.Deep.Strs
import Derived.Deep.Fields
import Derived.ChangeSame
import Derived.SizedLaws
set_option linter.unusedVariables false
set_option linter.unusedSimpArgs false
namespace Go.Proofs.YtgmdgaioiifgnaaGreat
open Go.RowKit Go.Proofs.YtgmdgaioiifgnaaGreatW.PrintWords
open Go.ChangeShapes Go.WideShapes Go.Deep
section
variable {H : Type} {enc : TypeId × Value → H} {P : Program} {w : World} {base : Nat} {spare : Nat → Bool} {held : Bool}
/-- Whatever is read at type t is of kind d, and p holds of it. -/
def Opens {α : Type} (enc : TypeId × Value → H) (P : Program) (w : World) (base : Nat) (spare : Nat → Bool) (held : Bool) (d : Kd α) (t : TypeId) (p : α → Prop) : Prop :=
  ∀ (fuel : Nat) (cs : List Value) (x : DataW H × List MemPlace), DataW.trod enc P w base spare held fuel t cs = some x → (∀ n ∈ x.1.weights P t, n ≤ reachBytes) → ∃ a : α, d.K w a cs ∧ p a
theorem opens_int {t : TypeId} {k : IntKind} (ht : P.underlying t = some (.int k)) : Opens enc P w base spare held (Kd.int k) t (fun n => (Lit.int k n).wf = true) := by
  intro fuel cs x h hw
  obtain ⟨n, rfl, _, hn⟩ := DataW.trod_int ht h
  exact ⟨n, rfl, hn⟩
theorem opens_string {t : TypeId} (ht : P.underlying t = some .string) : Opens enc P w base spare held Kd.string t (fun s => s.size ≤ reachBytes) := by
  intro fuel cs x h hw
  obtain ⟨s, rfl, rfl, _⟩ := DataW.trod_string ht h
  refine ⟨s, rfl, ?_⟩
  have := hw s.data.toList.length (by simp [DataW.weights])
  show s.size ≤ reachBytes
  rw [Lib.size_eq]
  exact this
theorem opens_struct2 {α β : Type} {d0 : Kd α} {d1 : Kd β} {t : TypeId} {f0 f1 : Field} {p0 : α → Prop} {p1 : β → Prop} (ht : P.underlying t = some (.struct #[f0, f1])) (o0 : f0.offset = 0) (c0 : P.cellsOf f0.type = d0.sz) (o1 : f1.offset = d0.sz) (c1 : P.cellsOf f1.type = d1.sz) (hc : P.cellsOf t = d0.sz + d1.sz)
    (h0 : Opens enc P w base spare held d0 f0.type p0) (h1 : Opens enc P w base spare held d1 f1.type p1) : Opens enc P w base spare held (Kd.pair d0 d1) t (fun a => p0 a.1 ∧ p1 a.2) := by
  intro fuel cs x h hw
  obtain ⟨y0, y1, n, rfl, hl, g0, g1⟩ := trod_struct2 ht h
  rw [o0, c0, List.drop_zero] at g0
  rw [o1, c1] at g1
  obtain ⟨a, ka, pa⟩ := h0 n _ y0 g0 (fun m hm => hw m (by simp [DataW.weights, ht, DataW.weightsEach, hm]))
  obtain ⟨b, kb, pb⟩ := h1 n _ y1 g1 (fun m hm => hw m (by simp [DataW.weights, ht, DataW.weightsEach, hm]))
  rw [List.take_of_length_le (by rw [List.length_drop]; omega)] at kb
  exact ⟨(a, b), ⟨_, _, (List.take_append_drop d0.sz cs).symm, ka, kb⟩, pa, pb⟩
theorem opens_struct3 {α β γ : Type} {d0 : Kd α} {d1 : Kd β} {d2 : Kd γ} {t : TypeId} {f0 f1 f2 : Field} {p0 : α → Prop} {p1 : β → Prop} {p2 : γ → Prop} (ht : P.underlying t = some (.struct #[f0, f1, f2])) (o0 : f0.offset = 0) (c0 : P.cellsOf f0.type = d0.sz) (o1 : f1.offset = d0.sz) (c1 : P.cellsOf f1.type = d1.sz)
    (o2 : f2.offset = d0.sz + d1.sz) (c2 : P.cellsOf f2.type = d2.sz) (hc : P.cellsOf t = d0.sz + (d1.sz + d2.sz)) (h0 : Opens enc P w base spare held d0 f0.type p0) (h1 : Opens enc P w base spare held d1 f1.type p1) (h2 : Opens enc P w base spare held d2 f2.type p2) :
    Opens enc P w base spare held (Kd.pair d0 (Kd.pair d1 d2)) t (fun a => p0 a.1 ∧ p1 a.2.1 ∧ p2 a.2.2) := by
  intro fuel cs x h hw
  obtain ⟨y0, y1, y2, n, rfl, hl, g0, g1, g2⟩ := trod_struct3 ht h
  rw [o0, c0, List.drop_zero] at g0
  rw [o1, c1] at g1
  rw [o2, c2] at g2
  obtain ⟨a, ka, pa⟩ := h0 n _ y0 g0 (fun m hm => hw m (by simp [DataW.weights, ht, DataW.weightsEach, hm]))
  obtain ⟨b, kb, pb⟩ := h1 n _ y1 g1 (fun m hm => hw m (by simp [DataW.weights, ht, DataW.weightsEach, hm]))
  obtain ⟨c, kc, pc⟩ := h2 n _ y2 g2 (fun m hm => hw m (by simp [DataW.weights, ht, DataW.weightsEach, hm]))
  rw [List.take_of_length_le (by rw [List.length_drop]; omega)] at kc
  refine ⟨(a, b, c), ⟨_, cs.drop d0.sz, (List.take_append_drop d0.sz cs).symm, ka, ⟨_, _, (List.take_append_drop d1.sz (cs.drop d0.sz)).symm, kb, ?_⟩⟩, pa, pb, pc⟩
  rw [List.drop_drop]
  exact kc
theorem opens_iso {α β : Type} {d : Kd α} {f : β → α} {t : TypeId} {p : α → Prop} (g : α → β) (hg : ∀ a, f (g a) = a) (h : Opens enc P w base spare held d t p) : Opens enc P w base spare held (Kd.iso d f) t (fun b => p (f b)) := by
  intro fuel cs x hx hw
  obtain ⟨a, ka, pa⟩ := h fuel cs x hx hw
  exact ⟨g a, (show d.K w (f (g a)) cs by rw [hg]; exact ka), by show p (f (g a)); rw [hg]; exact pa⟩
theorem weights_mem_all {e : TypeId} : ∀ {ds : List (DataW H)} {d : DataW H}, d ∈ ds → ∀ n ∈ d.weights P e, n ∈ DataW.weightsAll P e ds
  | d0 :: ds, d, hd, n, hn => by
    simp only [DataW.weightsAll, List.mem_append]
    rcases List.mem_cons.1 hd with rfl | hd
    · exact .inl hn
    · exact .inr (weights_mem_all hd n hn)
theorem opens_slice {α : Type} {d : Kd α} {t e : TypeId} {p : α → Prop} (z : α) (ht : P.underlying t = some (.slice e)) (hc : P.cellsOf e = d.sz) (h : Opens enc P w base spare held d e p) : Opens enc P w base spare held (Kd.slice e d) t (fun xs => ∀ x ∈ xs, p x) := by
  intro fuel cs x hx hw
  rcases open_slice ht hx with ⟨rfl, rfl⟩ | ⟨a, len, cap, m, n, D, Pl, rfl, hb, hl, hm, hmm, rfl, hi⟩
  · exact ⟨[], ⟨none, 0, rfl, Nat.le_refl _, rfl, Nat.zero_le _, fun h => absurd h (Nat.not_lt_zero _)⟩, fun x hx => absurd hx List.not_mem_nil⟩
  · have hml : len ≤ m := by rw [hmm]; split <;> omega
    have hall : ∀ i, ∃ y : α, i < len → ∃ cs', w.cells? base (a.add (i * P.cellsOf e)) (P.cellsOf e) = some cs' ∧ d.K w y cs' ∧ p y := by
      intro i
      by_cases hil : i < len
      · obtain ⟨cs', hcs, htr⟩ := hi i (by omega)
        obtain ⟨y, ky, py⟩ := h n cs' _ htr (fun q hq => hw q (by
          simp only [DataW.weights, ht, List.mem_cons, List.mem_append]
          exact .inr (.inl (weights_mem_all (List.mem_map.2 ⟨i, List.mem_range.2 hil, rfl⟩) q hq))))
        exact ⟨y, fun _ => ⟨cs', hcs, ky, py⟩⟩
      · exact ⟨z, fun h => absurd h hil⟩
    obtain ⟨f, hf⟩ := Classical.axiomOfChoice hall
    have hlen : ((List.range len).map f).length = len := by simp
    refine ⟨(List.range len).map f, ⟨some a, cap, by rw [hlen], by rw [hlen]; exact hl, rfl, by rw [hlen]; have : maxLen = 9223372036854775807 := rfl; omega, fun _ => ⟨a, rfl, fun j q hq => ?_⟩⟩, fun y hy => ?_⟩
    · have hj : j < len := by
        have := (List.getElem?_eq_some_iff.1 hq).1
        rw [hlen] at this
        exact this
      rw [List.getElem?_map, List.getElem?_range hj] at hq
      obtain rfl : f j = q := by simpa using hq
      obtain ⟨cs', hcs, ky, _⟩ := hf j hj
      refine ⟨cs', d.K_len ky, ky, fun i u hu => ?_⟩
      obtain ⟨_, hcl, hat⟩ := World.cells?_some hcs
      have hil : i < P.cellsOf e := by rw [← hcl]; exact (List.getElem?_eq_some_iff.1 hu).1
      have := hat i hil
      rw [Deep.add_add, hu, hc] at this
      exact this
    · obtain ⟨j, hj, rfl⟩ := List.mem_map.1 hy
      obtain ⟨_, _, _, py⟩ := hf j (List.mem_range.1 hj)
      exact py
end
section
variable {H : Type} {enc : TypeId × Value → H} {w : World} {base : Nat} {spare : Nat → Bool} {held : Bool}
theorem opens_lab : Opens enc Tryz.prog w base spare held kLab 64 (fun x => x.n.size ≤ reachBytes ∧ x.v.size ≤ reachBytes) :=
  opens_iso (f := fun x : Lab => (x.n, x.v)) (fun a => ⟨a.1, a.2⟩) (fun _ => rfl) (opens_struct2 Tryz.underlying64 rfl (by kernel_rfl) rfl (by kernel_rfl) (by kernel_rfl) (opens_string Tryz.underlying9) (opens_string Tryz.underlying9))
theorem opens_ref : Opens enc Tryz.prog w base spare held kRef 62 (fun x => (Lit.int .i64 x.ref).wf = true ∧ ∀ y ∈ x.ls, y.n.size ≤ reachBytes ∧ y.v.size ≤ reachBytes) :=
  opens_iso (f := fun x : Rf => (x.ref, x.ls)) (fun a => ⟨a.1, a.2⟩) (fun _ => rfl) (opens_struct2 Tryz.underlying62 rfl (by kernel_rfl) rfl (by kernel_rfl) (by kernel_rfl) (opens_int Tryz.underlying3) (opens_slice zLab Tryz.underlying60 (by kernel_rfl) opens_lab))
theorem opens_pt : Opens enc Tryz.prog w base spare held kPt 50 (fun x => (Lit.int .i64 x.ref).wf = true ∧ (Lit.int .i64 x.time).wf = true ∧ (Lit.int .u64 x.bits).wf = true) :=
  opens_iso (f := fun x : Pt => (x.ref, x.time, x.bits)) (fun a => ⟨a.1, a.2.1, a.2.2⟩) (fun _ => rfl) (opens_struct3 Tryz.underlying50 rfl (by kernel_rfl) rfl (by kernel_rfl) rfl (by kernel_rfl) (by kernel_rfl) (opens_int Tryz.underlying3) (opens_int Tryz.underlying3) (opens_int Tryz.underlying48))
theorem opens_rc : Opens enc Tryz.prog w base spare held kRc 35 (fun x => (Lit.int .i64 x.kind).wf = true ∧ (∀ y ∈ x.refs, (Lit.int .i64 y.ref).wf = true ∧ ∀ l ∈ y.ls, l.n.size ≤ reachBytes ∧ l.v.size ≤ reachBytes) ∧ ∀ y ∈ x.pts, (Lit.int .i64 y.ref).wf = true ∧ (Lit.int .i64 y.time).wf = true ∧ (Lit.int .u64 y.bits).wf = true) :=
  opens_iso (f := fun x : Rc => (x.kind, x.refs, x.pts)) (fun a => ⟨a.1, a.2.1, a.2.2⟩) (fun _ => rfl) (opens_struct3 Tryz.underlying35 rfl (by kernel_rfl) rfl (by kernel_rfl) rfl (by kernel_rfl) (by kernel_rfl) (opens_int Tryz.underlying3) (opens_slice zRf Tryz.underlying24 (by kernel_rfl) opens_ref) (opens_slice zPt Tryz.underlying33 (by kernel_rfl) opens_pt))
end
end Go.Proofs.YtgmdgaioiifgnaaGreat
