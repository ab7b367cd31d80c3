/- (*strings.Replacer).build, at the six texts of labels.Text. -/
import Derived.Test.YtgmdgaioiifgnaaGreatRep
import Derived.Handy
import Derived.Outline
import Derived.Test.YtgmdgaioiifgnaaGreatKn
set_option linter.unusedVariables false
set_option linter.unusedSimpArgs false
namespace Go.Proofs.YtgmdgaioiifgnaaGreat
open Go.RowKit Go.Proofs.YtgmdgaioiifgnaaGreatW.PrintWords
def rowZ (m : Nat) (v : Value) : Array Value := (List.replicate m (Value.slice none 0 0) ++ [v]).toArray
theorem rowZ_size (m : Nat) (v : Value) : (rowZ m v).size = m + 1 := by simp [rowZ]
theorem rowZ_low (m : Nat) (v : Value) (j : Nat) (h : j < m) : (rowZ m v)[j]? = some (.slice none 0 0) := by
  simp only [rowZ, List.getElem?_toArray]
  rw [List.getElem?_append_left (by simpa using h), List.getElem?_replicate, if_pos h]
theorem rowZ_last (m : Nat) (v : Value) : (rowZ m v)[m]? = some v := by
  simp only [rowZ, List.getElem?_toArray]
  rw [List.getElem?_append_right (by simp)]
  simp
theorem rowZ_one (m : Nat) (v : Value) (h : v.oneCell' = true) : (rowZ m v).all (·.oneCell') = true := by
  simp only [rowZ, List.all_toArray, List.all_append, List.all_cons, h, List.all_nil, Bool.and_true, List.all_eq_true, List.mem_replicate]
  rintro x ⟨_, rfl⟩
  rfl
def bsrRow (A : Option Addr) (n c : Nat) : Array Value := rowZ 256 (.slice A n c)
theorem setRow_fresh (w : World) (old cells : Array Value) (T : TypeId) : (w.alloc (.cells old T)).setRow w.heap.size cells = w.alloc (.cells cells T) := by
  have hm : ∀ (a : Array Obj) (x : Obj) (f : Obj → Obj), (a.push x).modify a.size f = a.push (f x) := by
    intro a x f
    apply Array.ext
    · simp
    · intro i h1 h2
      simp only [Array.getElem_modify, Array.getElem_push]
      by_cases h : a.size = i
      · subst h
        simp
      · have hi : i < a.size := by simp at h1; omega
        simp [h, hi]
  unfold World.setRow
  show ({ w.alloc (.cells old T) with heap := (w.heap.push (.cells old T)).modify w.heap.size _ } : World) = _
  rw [hm]
  rfl
/-- A block that is not of the row's kind stays. -/
theorem kept_obj {w w1 : World} {g e base sz n : Nat} {o : Obj} {v : Value} {inner : List Value} (h : w.heap[g]? = some o) (ho : w.ownsRow base e sz v n inner) (hne : ∀ cells, o ≠ .cells cells e (0, 0)) (hg : w.grownBy w1 v.ownBlock) : w1.heap[g]? = some o :=
  (hg.block g (Array.getElem?_eq_some_iff.1 h).1 (fun hk => by
    obtain ⟨cells, hc⟩ := own_typed ho g hk.symm
    rw [h] at hc
    exact hne cells (Option.some.inj hc))).trans h
def escL (k : Nat) : List ByteArray := (List.range k).map fun j => ⟨#[escK j]⟩
theorem escL_succ (k : Nat) : escL (k + 1) = escL k ++ [⟨#[escK k]⟩] := by simp [escL, List.range_succ]
def doneB (k c : Nat) : Prop := ∃ j, j < k ∧ c = (escK j).toNat
/-- What takes the place of a byte. -/
def EntryAt (w : World) (c : Nat) (u : Value) : Prop := ∃ blk kk cur fr, u = .slice (some ⟨blk, 0, none⟩) 2 kk ∧ w.heap[blk]? = some (.cells cur 5 fr) ∧ cur[0]? = some (.int .u8 92) ∧ cur[1]? = some (.int .u8 (escX c))
theorem EntryAt.below {w w1 : World} {c : Nat} {u : Value} (h : EntryAt w c u) (hb : Below w.heap.size w w1) : EntryAt w1 c u := by
  obtain ⟨blk, kk, cur, fr, h1, h2, h3⟩ := h
  exact ⟨blk, kk, cur, fr, h1, (hb.block _ (Array.getElem?_eq_some_iff.1 h2).1).trans h2, h3⟩
theorem EntryAt.grown {w w1 : World} {c base sz n : Nat} {u v : Value} {inner : List Value} (h : EntryAt w c u) (ho : w.ownsRow base 9 sz v n inner) (hg : w.grownBy w1 v.ownBlock) : EntryAt w1 c u := by
  obtain ⟨blk, kk, cur, fr, h1, h2, h3⟩ := h
  exact ⟨blk, kk, cur, fr, h1, kept_obj h2 ho (fun cells he => by injection he with _ he; exact absurd he (by decide)) hg, h3⟩
theorem EntryAt.far {w w1 : World} {c bb T : Nat} {u : Value} {cs : Array Value} (h : EntryAt w c u) (hb : w.heap[bb]? = some (.cells cs T (0, 0))) (hT : T ≠ 5) (hg : w.grownBy w1 (some bb)) : EntryAt w1 c u := by
  obtain ⟨blk, kk, cur, fr, h1, h2, h3⟩ := h
  refine ⟨blk, kk, cur, fr, h1, (hg.block blk (Array.getElem?_eq_some_iff.1 h2).1 (fun he => ?_)).trans h2, h3⟩
  injection he with he
  subst he
  rw [hb] at h2
  injection h2 with h2
  injection h2 with _ h2
  exact hT h2
/-- The replacer as it is made: which bytes are sought so far (v: a row of their texts), what takes the place of the first k of them. -/
structure BSt (w0 w : World) (bb : Nat) (v : Value) (L : List ByteArray) (k : Nat) : Prop where
  row : ∃ row, w.heap[bb]? = some (.cells row 181 (0, 0)) ∧ row.size = 257 ∧ row[256]? = some v ∧ (∀ c, c < 256 → ¬ doneB k c → row[c]? = some (.slice none 0 0)) ∧ (∀ c, doneB k c → ∃ u, row[c]? = some u ∧ EntryAt w c u)
  texts : Row Kd.string 9 w0 w v L
  below : Below w0.heap.size w0 w
  big : w0.heap.size ≤ bb
theorem entry_bytes (W : World) (x c : Nat) (hx : (x : Int) = escX c) (kk : Nat) (hx2 : x < 256 := by decide) : EntryAt (Lib.bytesWorld W 5 ⟨#[92, UInt8.ofNat x]⟩) c (.slice (some ⟨W.heap.size, 0, none⟩) 2 kk) := by
  have h0 := Lib.bytesWorld_cell W 5 ⟨#[92, UInt8.ofNat x]⟩ 0 (by show 0 < 2; omega)
  have h1 := Lib.bytesWorld_cell W 5 ⟨#[92, UInt8.ofNat x]⟩ 1 (by show 1 < 2; omega)
  have h2 := Lib.bytesWorld_at_new W 5 ⟨#[92, UInt8.ofNat x]⟩
  simp only [World.cell?, h2] at h0 h1
  refine ⟨_, kk, _, _, rfl, h2, by simpa using h0, ?_⟩
  have e : (x : Int) % 256 = escX c := by omega
  simpa [e] using h1
section
variable {w0 w w1 : World} {bb k : Nat} {v v1 : Value} {L L1 : List ByteArray}
theorem BSt.to (h : BSt w0 w bb v L k) (hb : Below w.heap.size w w1) : BSt w0 w1 bb v L k := by
  obtain ⟨⟨row, h1, h2, h3, h4, h5⟩, h6, h7, h8⟩ := h
  exact ⟨⟨row, (hb.block _ (Array.getElem?_eq_some_iff.1 h1).1).trans h1, h2, h3, h4, fun c hc => by
    obtain ⟨u, g1, g2⟩ := h5 c hc
    exact ⟨u, g1, g2.below hb⟩⟩, h6.below hb, below_then h7 h7.size hb, h8⟩
theorem BSt.cell (h : BSt w0 w bb v L k) : w.cell? ⟨bb, 256, none⟩ = some v := by
  obtain ⟨⟨row, h1, h2, h3, h4, h5⟩, h6, h7, h8⟩ := h
  rw [row_cell h1, Array.getElem?_toList]; exact h3
theorem BSt.free (h : BSt w0 w bb v L k) (j : Nat) : w.frozen? ⟨bb, j, none⟩ = false := by
  obtain ⟨⟨row, h1, h2, h3, h4, h5⟩, h6, h7, h8⟩ := h
  simp [World.frozen?, h1]
theorem BSt.empty (h : BSt w0 w bb v L k) (c : Nat) (hc : c < 256) (hd : ¬ doneB k c) : w.cell? ⟨bb, c, none⟩ = some (.slice none 0 0) := by
  obtain ⟨⟨row, h1, h2, h3, h4, h5⟩, h6, h7, h8⟩ := h
  rw [row_cell h1, Array.getElem?_toList]; exact h4 c hc hd
theorem BSt.app (h : BSt w0 w bb v L k) (h1 : Row Kd.string 9 w0 w1 v1 L1) (hb : Below w0.heap.size w0 w1) (hg : w.grownBy w1 v.ownBlock) : BSt w0 (w1.setCell ⟨bb, 256, none⟩ v1) bb v1 L1 k := by
  obtain ⟨⟨row, r1, r2, r3, r4, r5⟩, h6, h7, h8⟩ := h
  obtain ⟨inner, ho⟩ := Kd.R_own h6
  have q := kept_obj r1 ho (fun cells he => by injection he with _ he; exact absurd he (by decide)) hg
  rw [setCell_eq_setRow w1 bb 256 _ _ _ _ q]
  have hgs : w1.grownBy (w1.setRow bb (row.setIfInBounds 256 v1)) (some bb) := grown_setRow (World.grownBy.refl w1 (some bb)) bb _ (.inl rfl)
  refine ⟨⟨_, setRow_heap _ _ _ _ _ _ q, by simp [r2], by rw [Array.getElem?_setIfInBounds_self]; simp [r2], fun c hc hd => ?_, fun c hc => ?_⟩, Row.typed h1 q (by decide) hgs, hb.grown hgs hb.size (fun i hi => by injection hi with hi; omega), h8⟩
  · rw [Array.getElem?_setIfInBounds_ne (by omega)]; exact r4 c hc hd
  · obtain ⟨u, g1, g2⟩ := r5 c hc
    refine ⟨u, ?_, (g2.grown ho hg).far q (by decide) hgs⟩
    obtain ⟨j, hj, rfl⟩ := hc
    have := (escK j).toNat_lt
    rw [Array.getElem?_setIfInBounds_ne (by omega)]; exact g1
theorem BSt.rep (h : BSt w0 w bb v L k) (u : Value) (hu : EntryAt w (escK k).toNat u) (hinj : ∀ j, j < k → (escK j).toNat ≠ (escK k).toNat) : BSt w0 (w.setCell ⟨bb, (escK k).toNat, none⟩ u) bb v L (k + 1) := by
  obtain ⟨⟨row, r1, r2, r3, r4, r5⟩, h6, h7, h8⟩ := h
  have hlt := (escK k).toNat_lt
  rw [setCell_eq_setRow w bb _ _ _ _ _ r1]
  have hgs : w.grownBy (w.setRow bb (row.setIfInBounds (escK k).toNat u)) (some bb) := grown_setRow (World.grownBy.refl w (some bb)) bb _ (.inl rfl)
  refine ⟨⟨_, setRow_heap _ _ _ _ _ _ r1, by simp [r2], by rw [Array.getElem?_setIfInBounds_ne (by omega)]; exact r3, fun c hc hd => ?_, fun c hc => ?_⟩, Row.typed h6 r1 (by decide) hgs, h7.grown hgs h7.size (fun i hi => by injection hi with hi; omega), h8⟩
  · have hne : (escK k).toNat ≠ c := fun he => hd ⟨k, by omega, he.symm⟩
    rw [Array.getElem?_setIfInBounds_ne hne]
    exact r4 c hc (fun ⟨j, hj, he⟩ => hd ⟨j, by omega, he⟩)
  · obtain ⟨j, hj, rfl⟩ := hc
    rcases Nat.lt_or_ge j k with hjk | hjk
    · obtain ⟨u2, g1, g2⟩ := r5 _ ⟨j, hjk, rfl⟩
      refine ⟨u2, ?_, g2.far r1 (by decide) hgs⟩
      rw [Array.getElem?_setIfInBounds_ne (Ne.symm (hinj j hjk))]; exact g1
    · obtain rfl : j = k := by omega
      refine ⟨u, ?_, hu.far r1 (by decide) hgs⟩
      rw [Array.getElem?_setIfInBounds_self]
      rw [if_pos (by omega)]
/-- The same, whatever has become of older blocks. -/
structure BSc (w0 w : World) (bb : Nat) (v : Value) (L : List ByteArray) (k : Nat) : Prop where
  row : ∃ row, w.heap[bb]? = some (.cells row 181 (0, 0)) ∧ row.size = 257 ∧ row[256]? = some v ∧ (∀ c, c < 256 → ¬ doneB k c → row[c]? = some (.slice .none 0 0)) ∧ (∀ c, doneB k c → ∃ u, row[c]? = some u ∧ EntryAt w c u)
  texts : Row Kd.string 9 w0 w v L
theorem BSt.c (h : BSt w0 w bb v L k) : BSc w0 w bb v L k := ⟨h.row, h.texts⟩
theorem BSc.far (h : BSc w0 w bb v L k) {rb : Nat} {cs : Array Value} (hb : w.heap[rb]? = some (.cells cs 154 (0, 0))) (hg : w.grownBy w1 (some rb)) : BSc w0 w1 bb v L k := by
  obtain ⟨⟨row, h1, h2, h3, h4, h5⟩, h6⟩ := h
  refine ⟨⟨row, (hg.block bb (Array.getElem?_eq_some_iff.1 h1).1 (fun he => ?_)).trans h1, h2, h3, h4, fun c hc => ?_⟩, Row.typed h6 hb (by decide) hg⟩
  · injection he with he
    subst he
    rw [hb] at h1
    injection h1 with h1
    injection h1 with _ h1
    exact absurd h1 (by decide)
  · obtain ⟨u, g1, g2⟩ := h5 c hc
    exact ⟨u, g1, g2.far hb (by decide) hg⟩
theorem BSc.done (h : BSc w0 w bb v [⟨#[10]⟩, ⟨#[34]⟩, ⟨#[92]⟩] 3) : BSR w bb := by
  obtain ⟨⟨row, r1, r2, r3, r4, r5⟩, h6⟩ := h
  have hcell : ∀ j, w.cell? ⟨bb, j, none⟩ = row[j]? := fun j => by rw [row_cell r1, Array.getElem?_toList]
  refine ⟨fun c hc => ?_, fun c hc hn => ?_, ?_⟩
  · have hd : doneB 3 c := by
      simp only [isEsc, Bool.or_eq_true, beq_iff_eq] at hc
      rcases hc with (hc | hc) | hc
      · exact ⟨0, by omega, by simp [escK]; omega⟩
      · exact ⟨1, by omega, by simp [escK]; omega⟩
      · exact ⟨2, by omega, by simp [escK]; omega⟩
    obtain ⟨u, g1, blk, kk, cur, fr, rfl, g2, g3, g4⟩ := r5 c hd
    exact ⟨_, kk, (hcell c).trans g1, by simp [World.cell?, g2, g3], by simp [World.cell?, Addr.add, g2, g4]⟩
  · refine (hcell c).trans (r4 c hc (fun ⟨j, hj, he⟩ => ?_))
    subst he
    rcases (by omega : j = 0 ∨ j = 1 ∨ j = 2) with rfl | rfl | rfl <;> exact absurd hn (by decide)
  · obtain ⟨A, kk, rfl, _, hC⟩ := h6.reads
    obtain ⟨ad, rfl, hc⟩ := Kd.at_string hC 0 (by decide) (by decide)
    refine ⟨ad, kk, (hcell 256).trans r3, fun j hj => ?_⟩
    obtain ⟨ad2, he, hc2⟩ := Kd.at_string hC j (by omega) (by show (j : Int) < 3; omega)
    injection he with he
    subst he
    rcases (by omega : j = 0 ∨ j = 1 ∨ j = 2) with rfl | rfl | rfl <;> exact hc2
end
theorem zero181 : Tryz.zeroCells181 = rowZ 256 (.slice .none 0 0) := by kernel_rfl
theorem rowZ_set (m : Nat) (u v : Value) : (rowZ m u).toList.set m v = (rowZ m v).toList := by
  simp only [rowZ]
  rw [List.set_append_right _ _ (by simp)]
  simp
theorem bsr_start (w : World) : ∃ W1, (storeCells ⟨w.heap.size + 1, 0, none⟩ (Tryz.zeroCells181.toList.set 256 (.slice (some ⟨w.heap.size, 0, none⟩) 0 3))).run Tryz.prog ((w.alloc (.cells #[.string ⟨#[]⟩, .string ⟨#[]⟩, .string ⟨#[]⟩] 9)).alloc (.cells Tryz.zeroCells181 181)) = .ok () W1
    ∧ BSt w W1 (w.heap.size + 1) (.slice (some ⟨w.heap.size, 0, none⟩) 0 3) [] 0 := by
  rw [zero181, rowZ_set]
  have hsz : (w.alloc (.cells #[.string ⟨#[]⟩, .string ⟨#[]⟩, .string ⟨#[]⟩] 9)).heap.size = w.heap.size + 1 := by simp
  have hnew : ((w.alloc (.cells #[.string ⟨#[]⟩, .string ⟨#[]⟩, .string ⟨#[]⟩] 9)).alloc (.cells (rowZ 256 (.slice .none 0 0)) 181)).heap[w.heap.size + 1]? = some (.cells (rowZ 256 (.slice .none 0 0)) 181 (0, 0)) := by rw [← hsz]; exact heap_alloc_new _ _
  generalize hv : Value.slice (some ⟨w.heap.size, 0, none⟩) 0 3 = v
  have hv1 : v.oneCell' = true := by rw [← hv]; rfl
  have hone := rowZ_one 256 v hv1
  have h := run_storeCells_at Tryz.prog (w.heap.size + 1) 0 181 (rowZ 256 v).toList 0 (rowZ 256 (.slice .none 0 0)) _ hnew (by rw [Array.length_toList, rowZ_size, rowZ_size]; omega) (by intro u hu; exact List.all_eq_true.1 (by simpa using hone) u hu)
  refine ⟨_, h, ?_⟩
  have hrow : ((rowZ 256 (.slice .none 0 0)).toList.take (0 + 0) ++ (rowZ 256 v).toList ++ (rowZ 256 (.slice .none 0 0)).toList.drop (0 + 0 + (rowZ 256 v).toList.length)).toArray = rowZ 256 v := by
    rw [List.drop_eq_nil_of_le (by rw [Array.length_toList, Array.length_toList, rowZ_size, rowZ_size]; omega)]
    simp
  rw [hrow]
  have hb0 : Below w.heap.size w ((w.alloc (.cells #[.string ⟨#[]⟩, .string ⟨#[]⟩, .string ⟨#[]⟩] 9)).alloc (.cells (rowZ 256 (.slice .none 0 0)) 181)) := below_alloc (below_alloc (Below.refl _ _) _) _
  have hgs : ((w.alloc (.cells #[.string ⟨#[]⟩, .string ⟨#[]⟩, .string ⟨#[]⟩] 9)).alloc (.cells (rowZ 256 (.slice .none 0 0)) 181)).grownBy (((w.alloc (.cells #[.string ⟨#[]⟩, .string ⟨#[]⟩, .string ⟨#[]⟩] 9)).alloc (.cells (rowZ 256 (.slice .none 0 0)) 181)).setRow (w.heap.size + 1) (rowZ 256 v)) (some (w.heap.size + 1)) := grown_setRow (World.grownBy.refl _ _) _ _ (.inl rfl)
  have hrw : Row Kd.string 9 w ((w.alloc (.cells #[.string ⟨#[]⟩, .string ⟨#[]⟩, .string ⟨#[]⟩] 9)).alloc (.cells (rowZ 256 (.slice .none 0 0)) 181)) v [] := by
    rw [← hv]
    refine Row.below (w := w.alloc (.cells #[.string ⟨#[]⟩, .string ⟨#[]⟩, .string ⟨#[]⟩] 9)) ⟨fun _ _ => trivial, [], ⟨rfl, .inr ⟨w.heap.size, 3, _, rfl, Nat.le_refl _, heap_alloc_new w _, by simp, by unfold maxLen; omega, rfl, rfl⟩⟩, Reps.none _ _⟩ (below_alloc (Below.refl _ _) _)
  exact ⟨⟨_, setRow_heap _ _ _ _ _ _ hnew, rowZ_size _ _, rowZ_last _ _, fun c hc _ => rowZ_low _ _ _ hc, fun c ⟨j, hj, _⟩ => absurd hj (Nat.not_lt_zero j)⟩, Row.typed hrw hnew (by decide) hgs, hb0.grown hgs hb0.size (fun i hi => by injection hi with hi; omega), by omega⟩
theorem World.setCell_heap_size' (w : World) (a : Addr) (v : Value) : (w.setCell a v).heap.size = w.heap.size := by simp [World.setCell]
theorem kept_cell {w0 w w1 : World} {bb k : Nat} {v : Value} {L : List ByteArray} (h : BSt w0 w bb v L k) (hg : w.grownBy w1 v.ownBlock) : w1.cell? ⟨bb, 256, none⟩ = some v := by
  obtain ⟨⟨row, r1, r2, r3, r4, r5⟩, h6, h7, h8⟩ := h
  obtain ⟨inner, ho⟩ := Kd.R_own h6
  have q := kept_obj r1 ho (fun cells he => by injection he with _ he; exact absurd he (by decide)) hg
  rw [row_cell q, Array.getElem?_toList]; exact r3
theorem kept_free {w0 w w1 : World} {bb k : Nat} {v : Value} {L : List ByteArray} (h : BSt w0 w bb v L k) (hg : w.grownBy w1 v.ownBlock) : w1.frozen? ⟨bb, 256, none⟩ = false := by
  obtain ⟨⟨row, r1, r2, r3, r4, r5⟩, h6, h7, h8⟩ := h
  obtain ⟨inner, ho⟩ := Kd.R_own h6
  have q := kept_obj r1 ho (fun cells he => by injection he with _ he; exact absurd he (by decide)) hg
  simp [World.frozen?, q]
set_option maxHeartbeats 2000000 in
set_option maxRecDepth 100000 in
theorem build_calls (rb ob c : Nat) (w : World) (h2 : w.cell? ⟨rb, 4, none⟩ = some (.slice (some ⟨ob, 0, none⟩) 6 c)) (z0 : w.cell? ⟨ob, 0, none⟩ = some (.string ⟨#[92]⟩)) (z1 : w.cell? ⟨ob, 1, none⟩ = some (.string ⟨#[92, 92]⟩))
    (z2 : w.cell? ⟨ob, 2, none⟩ = some (.string ⟨#[34]⟩)) (z3 : w.cell? ⟨ob, 3, none⟩ = some (.string ⟨#[92, 34]⟩)) (z4 : w.cell? ⟨ob, 4, none⟩ = some (.string ⟨#[10]⟩)) (z5 : w.cell? ⟨ob, 5, none⟩ = some (.string ⟨#[92, 110]⟩)) :
    Calls Tryz.prog 105 #[.pointer (some ⟨rb, 0, none⟩)] w fun e w' => ∃ bb v, e = .returned (.iface 182 (.pointer (some ⟨bb, 0, none⟩))) ∧ BSc w w' bb v [⟨#[10]⟩, ⟨#[34]⟩, ⟨#[92]⟩] 3 ∧ Below w.heap.size w w' := by
  obtain ⟨W1, hst, HS⟩ := bsr_start w
  have HS := Aside0.mk HS
  have hmk : ∀ w : World, (Instr.makeSlice 44 (.int .i64 0) (.int .i64 3)).run Tryz.prog w = .ok (.slice (some ⟨w.heap.size, 0, none⟩) 0 3) (w.alloc (.cells #[.string ⟨#[]⟩, .string ⟨#[]⟩, .string ⟨#[]⟩] 9)) := fun w => by kernel_rfl
  go_enter Tryz.func105, Tryz.ntmps105
  go_wp2
  go_rounds 4
  clear hst hmk
  go_loopw [12] (fun i wr => ∃ (k : Nat) (m : Int) (v : Value), k ≤ 3 ∧ i = .int .i64 m ∧ m = 4 - 2 * (k : Int) ∧ Aside0 (BSt w wr (w.heap.size + 1) v (escL k) k)) (fun i _ => (intOf i + 2).toNat)
  case atStart => exact ⟨0, 4, _, by omega, rfl, rfl, HS⟩
  case round =>
    clear HS
    obtain ⟨k, m, v, hk, rfl, hm, HB⟩ := hrel
    have hinfo : (Tryz.prog.info? 9).map (fun i => (i.zero, i.size, i.bytes)) = some (some (.string ⟨#[]⟩), 1, 16) := by kernel_rfl
    have q22 : ∀ (w : World) (a : Option Addr) (n c n' c' : Nat), (binOp .eql 58 (.slice a n c) (.slice none n' c')).run Tryz.prog w = .ok (.bool a.isNone) w := fun w a n c n' c' => Lib.run_eql_slice_nil w _ _ a n c n' c' (by kernel_rfl : Tryz.prog.underlying 58 = some (.slice 5))
    rcases (by omega : k = 0 ∨ k = 1 ∨ k = 2 ∨ k = 3) with rfl | rfl | rfl | rfl
    · obtain rfl : m = 4 := by omega
      have z0 := pw_cell_below HB.out.below z4
      have z1 := pw_cell_below HB.out.below z5
      have hnd : ¬ doneB 0 10 := (by rintro ⟨j, hj, he⟩; rcases (by omega : j = 0 ∨ j = 1) with rfl | rfl <;> first | omega | exact absurd he (by decide))
      have h0 := HB.out.empty 10 (by decide) hnd
      have hv := HB.out.cell
      have e0 : ((⟨#[10]⟩ : ByteArray)[0]'(by show 0 < 1; omega)).toNat = 10 := rfl
      have kc : ∀ W : World, (convert 58 9 (.slice (some ⟨W.heap.size, 0, none⟩) 1 1)).run Tryz.prog (W.alloc (.cells #[.int .u8 10] 5)) = .ok (.string ⟨#[10]⟩) (W.alloc (.cells #[.int .u8 10] 5)) := fun W => own_string (P := Tryz.prog) Tryz.underlying58 Tryz.underlying5 Tryz.underlying9 (own_lit W W.heap.size 5 .u8 [10] (Nat.le_refl _) (by simp))
      have kb : ∀ W : World, (convert 9 58 (.string ⟨#[92, 110]⟩)).run Tryz.prog W = .ok (.slice (some ⟨W.heap.size, 0, none⟩) 2 (grownCap W 2 0 5)) (Lib.bytesWorld W 5 ⟨#[92, 110]⟩) := fun W => print_bytes (P := Tryz.prog) 9 58 5 Tryz.underlying9 Tryz.underlying58 Tryz.underlying5 ⟨#[92, 110]⟩ W
      clear hk hm
      go_wp2_with (at_builtin; (refine row_append Kd.string Tryz.underlying44 hinfo rfl (by decide) (by decide) (.tmp 119) (.tmp 123) rfl rfl v (escL 0) ⟨#[10]⟩ [.string ⟨#[10]⟩] rfl (by simp [Act.eval]) (fun _ => False) rfl (fun _ hk => hk.elim) (HB.out.to (below_alloc (Below.refl wr.heap.size wr) (.cells #[.int .u8 10] 5))).texts (HB.out.to (below_alloc (Below.refl wr.heap.size wr) (.cells #[.int .u8 10] 5))).below (by simp [escL]) ?_; intro v1 w1 r1 r2 r3; obtain ⟨A1, c1, rfl⟩ : ∃ A c, v1 = .slice A 1 c := Kd.R_slice r1; have r4 := Aside0.mk ((HB.out.to (below_alloc (Below.refl wr.heap.size wr) (.cells #[.int .u8 10] 5))).app r1 r2 r3); have r5 := kept_cell (HB.out.to (below_alloc (Below.refl wr.heap.size wr) (.cells #[.int .u8 10] 5))) r3; have r6 := kept_free (HB.out.to (below_alloc (Below.refl wr.heap.size wr) (.cells #[.int .u8 10] 5))) r3; have r7 := Aside0.mk (r4.out.to (bytes_below (Below.refl _ _) (Nat.le_refl _) 5 ⟨#[92, 110]⟩)); have r8 := r7.out.empty 10 (by decide) hnd; have r9 := r7.out.free 10; have rA := Aside0.mk (r7.out.rep _ (entry_bytes (w1.setCell ⟨w.heap.size + 1, 256, none⟩ (.slice A1 1 c1)) 110 (escK 0).toNat (by decide) (grownCap (w1.setCell ⟨w.heap.size + 1, 256, none⟩ (.slice A1 1 c1)) 2 0 5)) (by decide)); clear h0 hv HB r1 r2 r3 r4 r7))
      have rB : BSt w _ (w.heap.size + 1) (.slice A1 1 c1) (escL 1) 1 := rA.out
      simp only [World.setCell_heap_size'] at rB
      exact ⟨⟨1, 2, _, by omega, rfl, by decide, ⟨rB⟩⟩, by decide⟩
    · obtain rfl : m = 2 := by omega
      have z0 := pw_cell_below HB.out.below z2
      have z1 := pw_cell_below HB.out.below z3
      have hnd : ¬ doneB 1 34 := (by rintro ⟨j, hj, he⟩; rcases (by omega : j = 0 ∨ j = 1) with rfl | rfl <;> first | omega | exact absurd he (by decide))
      have h0 := HB.out.empty 34 (by decide) hnd
      have hv := HB.out.cell
      have e0 : ((⟨#[34]⟩ : ByteArray)[0]'(by show 0 < 1; omega)).toNat = 34 := rfl
      have kc : ∀ W : World, (convert 58 9 (.slice (some ⟨W.heap.size, 0, none⟩) 1 1)).run Tryz.prog (W.alloc (.cells #[.int .u8 34] 5)) = .ok (.string ⟨#[34]⟩) (W.alloc (.cells #[.int .u8 34] 5)) := fun W => own_string (P := Tryz.prog) Tryz.underlying58 Tryz.underlying5 Tryz.underlying9 (own_lit W W.heap.size 5 .u8 [34] (Nat.le_refl _) (by simp))
      have kb : ∀ W : World, (convert 9 58 (.string ⟨#[92, 34]⟩)).run Tryz.prog W = .ok (.slice (some ⟨W.heap.size, 0, none⟩) 2 (grownCap W 2 0 5)) (Lib.bytesWorld W 5 ⟨#[92, 34]⟩) := fun W => print_bytes (P := Tryz.prog) 9 58 5 Tryz.underlying9 Tryz.underlying58 Tryz.underlying5 ⟨#[92, 34]⟩ W
      clear hk hm
      go_wp2_with (at_builtin; (refine row_append Kd.string Tryz.underlying44 hinfo rfl (by decide) (by decide) (.tmp 119) (.tmp 123) rfl rfl v (escL 1) ⟨#[34]⟩ [.string ⟨#[34]⟩] rfl (by simp [Act.eval]) (fun _ => False) rfl (fun _ hk => hk.elim) (HB.out.to (below_alloc (Below.refl wr.heap.size wr) (.cells #[.int .u8 34] 5))).texts (HB.out.to (below_alloc (Below.refl wr.heap.size wr) (.cells #[.int .u8 34] 5))).below (by simp [escL]) ?_; intro v1 w1 r1 r2 r3; obtain ⟨A1, c1, rfl⟩ : ∃ A c, v1 = .slice A 2 c := Kd.R_slice r1; have r4 := Aside0.mk ((HB.out.to (below_alloc (Below.refl wr.heap.size wr) (.cells #[.int .u8 34] 5))).app r1 r2 r3); have r5 := kept_cell (HB.out.to (below_alloc (Below.refl wr.heap.size wr) (.cells #[.int .u8 34] 5))) r3; have r6 := kept_free (HB.out.to (below_alloc (Below.refl wr.heap.size wr) (.cells #[.int .u8 34] 5))) r3; have r7 := Aside0.mk (r4.out.to (bytes_below (Below.refl _ _) (Nat.le_refl _) 5 ⟨#[92, 34]⟩)); have r8 := r7.out.empty 34 (by decide) hnd; have r9 := r7.out.free 34; have rA := Aside0.mk (r7.out.rep _ (entry_bytes (w1.setCell ⟨w.heap.size + 1, 256, none⟩ (.slice A1 2 c1)) 34 (escK 1).toNat (by decide) (grownCap (w1.setCell ⟨w.heap.size + 1, 256, none⟩ (.slice A1 2 c1)) 2 0 5)) (by decide)); clear h0 hv HB r1 r2 r3 r4 r7))
      have rB : BSt w _ (w.heap.size + 1) (.slice A1 2 c1) (escL 2) 2 := rA.out
      simp only [World.setCell_heap_size'] at rB
      exact ⟨⟨2, 0, _, by omega, rfl, by decide, ⟨rB⟩⟩, by decide⟩
    · obtain rfl : m = 0 := by omega
      have z0 := pw_cell_below HB.out.below z0
      have z1 := pw_cell_below HB.out.below z1
      have hnd : ¬ doneB 2 92 := (by rintro ⟨j, hj, he⟩; rcases (by omega : j = 0 ∨ j = 1) with rfl | rfl <;> first | omega | exact absurd he (by decide))
      have h0 := HB.out.empty 92 (by decide) hnd
      have hv := HB.out.cell
      have e0 : ((⟨#[92]⟩ : ByteArray)[0]'(by show 0 < 1; omega)).toNat = 92 := rfl
      have kc : ∀ W : World, (convert 58 9 (.slice (some ⟨W.heap.size, 0, none⟩) 1 1)).run Tryz.prog (W.alloc (.cells #[.int .u8 92] 5)) = .ok (.string ⟨#[92]⟩) (W.alloc (.cells #[.int .u8 92] 5)) := fun W => own_string (P := Tryz.prog) Tryz.underlying58 Tryz.underlying5 Tryz.underlying9 (own_lit W W.heap.size 5 .u8 [92] (Nat.le_refl _) (by simp))
      have kb : ∀ W : World, (convert 9 58 (.string ⟨#[92, 92]⟩)).run Tryz.prog W = .ok (.slice (some ⟨W.heap.size, 0, none⟩) 2 (grownCap W 2 0 5)) (Lib.bytesWorld W 5 ⟨#[92, 92]⟩) := fun W => print_bytes (P := Tryz.prog) 9 58 5 Tryz.underlying9 Tryz.underlying58 Tryz.underlying5 ⟨#[92, 92]⟩ W
      clear hk hm
      go_wp2_with (at_builtin; (refine row_append Kd.string Tryz.underlying44 hinfo rfl (by decide) (by decide) (.tmp 119) (.tmp 123) rfl rfl v (escL 2) ⟨#[92]⟩ [.string ⟨#[92]⟩] rfl (by simp [Act.eval]) (fun _ => False) rfl (fun _ hk => hk.elim) (HB.out.to (below_alloc (Below.refl wr.heap.size wr) (.cells #[.int .u8 92] 5))).texts (HB.out.to (below_alloc (Below.refl wr.heap.size wr) (.cells #[.int .u8 92] 5))).below (by simp [escL]) ?_; intro v1 w1 r1 r2 r3; obtain ⟨A1, c1, rfl⟩ : ∃ A c, v1 = .slice A 3 c := Kd.R_slice r1; have r4 := Aside0.mk ((HB.out.to (below_alloc (Below.refl wr.heap.size wr) (.cells #[.int .u8 92] 5))).app r1 r2 r3); have r5 := kept_cell (HB.out.to (below_alloc (Below.refl wr.heap.size wr) (.cells #[.int .u8 92] 5))) r3; have r6 := kept_free (HB.out.to (below_alloc (Below.refl wr.heap.size wr) (.cells #[.int .u8 92] 5))) r3; have r7 := Aside0.mk (r4.out.to (bytes_below (Below.refl _ _) (Nat.le_refl _) 5 ⟨#[92, 92]⟩)); have r8 := r7.out.empty 92 (by decide) hnd; have r9 := r7.out.free 92; have rA := Aside0.mk (r7.out.rep _ (entry_bytes (w1.setCell ⟨w.heap.size + 1, 256, none⟩ (.slice A1 3 c1)) 92 (escK 2).toNat (by decide) (grownCap (w1.setCell ⟨w.heap.size + 1, 256, none⟩ (.slice A1 3 c1)) 2 0 5)) (by decide)); clear h0 hv HB r1 r2 r3 r4 r7))
      have rB : BSt w _ (w.heap.size + 1) (.slice A1 3 c1) (escL 3) 3 := rA.out
      simp only [World.setCell_heap_size'] at rB
      exact ⟨⟨3, -2, _, by omega, rfl, by decide, ⟨rB⟩⟩, by decide⟩
    · obtain rfl : m = -2 := by omega
      clear hk hm
      go_wp2_with fail
      go_ret
      exact ⟨_, v, rfl, HB.out.c, HB.out.below⟩
end Go.Proofs.YtgmdgaioiifgnaaGreat
