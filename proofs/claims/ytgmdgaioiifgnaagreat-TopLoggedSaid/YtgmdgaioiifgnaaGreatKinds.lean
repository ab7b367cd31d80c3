/- The kinds of gleaner's plain types: how their values lie in memory. -/
import Derived.Test.YtgmdgaioiifgnaaGreatMap
import Derived.Test.YtgmdgaioiifgnaaGreatProg
set_option linter.unusedVariables false
set_option linter.unusedSimpArgs false
namespace Go.Proofs.YtgmdgaioiifgnaaGreat
open Go.RowKit Go.Proofs.YtgmdgaioiifgnaaGreatW.PrintWords
/-! ### api.Label -/
structure Lab where
  n : ByteArray
  v : ByteArray
  deriving DecidableEq
def zLab : Lab := ⟨⟨#[]⟩, ⟨#[]⟩⟩
def kLab : Kd Lab := Kd.iso (Kd.pair Kd.string Kd.string) (fun x : Lab => (x.n, x.v))
theorem kLab_open {w : World} {x : Lab} {cs : List Value} (h : kLab.K w x cs) : cs = [.string x.n, .string x.v] := by
  obtain ⟨_, _, rfl, rfl, rfl⟩ := h
  exact rfl
theorem kLab_openM {w : World} {base : Nat} {ok : Nat → Prop} {x : Lab} {cs : List Value} (h : kLab.M w base ok x cs) : cs = [.string x.n, .string x.v] := by
  obtain ⟨_, _, rfl, rfl, rfl⟩ := h
  exact rfl
theorem kLab_mk (w : World) (x : Lab) : kLab.K w x [.string x.n, .string x.v] := ⟨[.string x.n], [.string x.v], rfl, rfl, rfl⟩
theorem kLab_mkM (w : World) (base : Nat) (ok : Nat → Prop) (x : Lab) : kLab.M w base ok x [.string x.n, .string x.v] := ⟨[.string x.n], [.string x.v], rfl, rfl, rfl⟩
def rdLab (xs : List Lab) (i : Nat) : Lab := xs.getD i zLab
theorem at_lab {w : World} {A : Option Addr} {n : Nat} {xs : List Lab} (h : kLab.C w A n xs) (i : Nat) (h1 : i < n) : ∃ ad, A = some ad ∧ w.cell? (ad.add (i * 2)) = some (.string (rdLab xs i).n) ∧ w.cell? ⟨(ad.add (i * 2)).block, (ad.add (i * 2)).off + 1, none⟩ = some (.string (rdLab xs i).v) := by
  obtain ⟨ad, c, e, _, hK, hc0⟩ := Kd.C_get h zLab (i : Int) (by omega) (by omega)
  rw [Int.toNat_natCast] at hK hc0
  obtain rfl := kLab_open hK
  exact ⟨ad, e, hc0 0 _ rfl, by rw [← add_field _ _ 1 (by omega)]; exact hc0 1 _ rfl⟩
theorem infoLab : (Tryz.prog.info? 64).map (fun i => (i.zero, i.size, i.bytes)) = some (some (.agg #[.string ⟨#[]⟩, .string ⟨#[]⟩]), 2, 32) := by kernel_rfl
/-- How long a text that came in may be. -/
def Small (s : ByteArray) : Prop := s.size ≤ 140737488351232
def SmallL (l : List Lab) : Prop := ∀ x ∈ l, Small x.n ∧ Small x.v
theorem SmallL.at {l : List Lab} (h : SmallL l) (i : Nat) (hi : i < l.length) : (rdLab l i).n.size ≤ 140737488351232 ∧ (rdLab l i).v.size ≤ 140737488351232 := by
  have : rdLab l i = l[i] := by simp [rdLab, List.getD_eq_getElem?_getD, List.getElem?_eq_getElem hi]
  rw [this]; exact h _ (List.getElem_mem hi)
/-- The cells of a block that has just been laid, later on. -/
theorem new_cells {w w1 : World} {cs : Array Value} {T : TypeId} (hb : Below (w.alloc (.cells cs T)).heap.size (w.alloc (.cells cs T)) w1) (j : Nat) : w1.cell? ⟨w.heap.size, j, none⟩ = cs[j]? := by
  have h := hb.block w.heap.size (by simp)
  rw [heap_alloc_new] at h
  simp [World.cell?, h]
theorem list_findSome_at {α β : Type} {f : α → Option β} {l : List α} {k : Nat} {e : β} (h : ∀ x ∈ l.take k, f x = none) (hk : k < l.length) (he : f l[k] = some e) : l.findSome? f = some e := by
  rw [← List.take_append_drop k l, List.findSome?_append, List.findSome?_eq_none_iff.2 h, List.drop_eq_getElem_cons hk, List.findSome?_cons, he]
  rfl
theorem rdLab_eq {l : List Lab} {k : Nat} (hk : k < l.length) : rdLab l k = l[k] := by simp [rdLab, List.getD_eq_getElem?_getD, List.getElem?_eq_getElem hk]
theorem take_succ_all {α : Type} {p : α → Prop} {l : List α} {k : Nat} (h : ∀ x ∈ l.take k, p x) (hk : k < l.length) (he : p l[k]) : ∀ x ∈ l.take (k + 1), p x := by
  intro x hx
  rw [List.take_succ_eq_append_getElem hk] at hx
  rcases List.mem_append.1 hx with hx | hx
  · exact h x hx
  · rw [List.mem_singleton.1 hx]; exact he
end Go.Proofs.YtgmdgaioiifgnaaGreat
