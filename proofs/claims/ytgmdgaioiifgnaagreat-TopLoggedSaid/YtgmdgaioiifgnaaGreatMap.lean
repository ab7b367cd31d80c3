/- Maps: what a block that is a map holds, as a list of keys and values (over any program). -/
import Derived.Test.YtgmdgaioiifgnaaGreatMem
import Derived.Maps.OwnOps
set_option linter.unusedVariables false
set_option linter.unusedSimpArgs false
namespace Go.Proofs.YtgmdgaioiifgnaaGreat
open Go.RowKit Go.Proofs.YtgmdgaioiifgnaaGreatW.PrintWords

/-- How keys are encoded: one plain kind. -/
structure KeyKd (κ : Type) [DecidableEq κ] where
  enc : κ → Value
  kd : TypeDesc
  same : ∀ a b, Instr.sameNow kd (enc a) (enc b) = some (decide (a = b))
  bits : ∀ a n, Instr.sameBits n (enc a) (enc a) = true
  check : ∀ (P : Program) (e : Bool) (n : Nat) (t : TypeId) (a : κ) (w : World), P.underlying t = some kd → (Instr.checkKey e (n + 1) t (enc a)).run P w = .ok () w
def keyS : KeyKd ByteArray where
  enc := Value.string
  kd := .string
  same := fun a b => by
    simp only [Instr.sameNow, Option.some.injEq]
    rw [Bool.eq_iff_iff, Go.MapKept.bytes_beq, decide_eq_true_iff]
  bits := fun a n => by cases n <;> simp [Instr.sameBits, Go.MapKept.bytes_beq]
  check := fun P e n t a w h => by simp [Instr.checkKey, run_underlying h]
def keyI : KeyKd Int where
  enc := Value.int .i64
  kd := .int .i64
  same := fun a b => by simp [Instr.sameNow, Bool.beq_eq_decide_eq]
  bits := fun a n => by cases n <;> simp [Instr.sameBits]
  check := fun P e n t a w h => by simp [Instr.checkKey, run_underlying h]

section
variable {κ : Type} [DecidableEq κ] (K : KeyKd κ)
def MapOf (w : World) (b : Nat) (M : List (κ × Value)) : Prop := ∃ es clock, w.heap[b]? = some (.map es clock) ∧ es.toList.map (fun e => (e.key, e.val)) = M.map fun p => (K.enc p.1, p.2)
def mget (M : List (κ × Value)) (k : κ) : Option Value := (M.find? fun p => decide (p.1 = k)).map (·.2)
def mput (M : List (κ × Value)) (k : κ) (v : Value) : List (κ × Value) :=
  match M with
  | [] => [(k, v)]
  | p :: r => if p.1 = k then (k, v) :: r else p :: mput r k v
theorem mget_put_same (M : List (κ × Value)) (k : κ) (v : Value) : mget (mput M k v) k = some v := by
  induction M with
  | nil => simp [mput, mget]
  | cons p r ih =>
    unfold mput
    split
    · simp [mget]
    · rename_i h; simp only [mget, List.find?_cons, h, decide_false]; exact ih
theorem mget_put_other (M : List (κ × Value)) {k k' : κ} (v : Value) (hne : k' ≠ k) : mget (mput M k v) k' = mget M k' := by
  induction M with
  | nil => simp [mput, mget, Ne.symm hne]
  | cons p r ih =>
    unfold mput
    split
    · rename_i h; simp [mget, List.find?_cons, Ne.symm hne, h]
    · simp only [mget, List.find?_cons]; split
      · rfl
      · exact ih
theorem MapOf.block {w w1 : World} {b : Nat} {M : List (κ × Value)} (h : MapOf K w b M) (hb : w1.heap[b]? = w.heap[b]?) : MapOf K w1 b M := by
  obtain ⟨es, c, h1, h2⟩ := h
  exact ⟨es, c, hb.trans h1, h2⟩
theorem MapOf.lt {w : World} {b : Nat} {M : List (κ × Value)} (h : MapOf K w b M) : b < w.heap.size := by
  obtain ⟨es, c, h1, h2⟩ := h
  exact blk_lt h1
theorem MapOf.below {w w1 : World} {b : Nat} {M : List (κ × Value)} (h : MapOf K w b M) (hb : Below w.heap.size w w1) : MapOf K w1 b M := h.block K (hb.block b (h.lt K))
theorem MapOf.made (w : World) : MapOf K (w.alloc (.map #[] 0)) w.heap.size [] := ⟨#[], 0, heap_alloc_new w _, rfl⟩

theorem findNow_of (k : κ) : ∀ (es : List MapEntry) (M : List (κ × Value)) (i : Nat), es.map (fun e => (e.key, e.val)) = M.map (fun p => (K.enc p.1, p.2)) →
    Instr.findNow K.kd (K.enc k) es i = some ((M.findIdx? fun p => decide (p.1 = k)).bind fun j => (M[j]?).map fun p => (i + j, p.2))
  | [], M, i, h => by
    cases M with
    | nil => rfl
    | cons p r => simp at h
  | e :: es, M, i, h => by
    cases M with
    | nil => simp at h
    | cons p r =>
      simp only [List.map_cons, List.cons.injEq, Prod.mk.injEq] at h
      obtain ⟨⟨h1, h2⟩, h3⟩ := h
      unfold Instr.findNow
      rw [h1, K.same]
      by_cases hk : k = p.1
      · subst hk; simp [List.findIdx?_cons, h2]
      · have hk' : ¬ p.1 = k := fun e => hk e.symm
        simp only [hk, decide_false]
        rw [findNow_of k es r (i + 1) h3]
        simp only [List.findIdx?_cons, hk', decide_false, Bool.false_eq_true, if_false]
        cases hf : (r.findIdx? fun p => decide (p.1 = k)) with
        | none => simp
        | some j => simp; cases r[j]? <;> simp <;> omega
theorem mget_idx (k : κ) : ∀ M : List (κ × Value), mget M k = (M.findIdx? fun p => decide (p.1 = k)).bind fun j => (M[j]?).map (·.2)
  | [] => rfl
  | p :: r => by
    simp only [mget, List.find?_cons, List.findIdx?_cons]
    split
    · rename_i h; simp [h]
    · rename_i h; simp only [h]; have := mget_idx k r; rw [mget] at this; rw [this]
      cases hf : (r.findIdx? fun p => decide (p.1 = k)) <;> simp
variable {P : Program} {w : World} {b : Nat} {M : List (κ × Value)} {t kt et : TypeId}
theorem MapOf.lookup (h : MapOf K w b M) (ht : P.underlying t = some (.map kt et)) (hk : P.underlying kt = some K.kd) {z : Value} (hz : (zeroValue et).run P w = .ok z w) (k : κ) (ok : Bool) :
    (Instr.lookup t (.map (some b)) (K.enc k) ok).run P w = .ok (if ok then .tuple #[(mget M k).getD z, .bool (mget M k).isSome] else (mget M k).getD z) w := by
  obtain ⟨es, c, h1, h2⟩ := h
  have h3 := findNow_of K k es.toList M 0 h2
  have hch : (Instr.checkKey es.isEmpty 10000 kt (K.enc k)).run P w = .ok () w := K.check P es.isEmpty 9999 kt k w hk
  rw [mget_idx]
  cases hf : (M.findIdx? fun p => decide (p.1 = k)) with
  | none => cases ok <;> simp [Instr.lookup, getObj, Sem.run, run_underlying ht, h1, hch, Instr.findKey, run_underlying hk, h3, hf, hz]
  | some j =>
    have hj : j < M.length := by have := List.findIdx?_eq_some_iff_findIdx_eq.1 hf; exact this.1
    cases ok <;> simp [Instr.lookup, getObj, Sem.run, run_underlying ht, h1, hch, Instr.findKey, run_underlying hk, h3, hf, List.getElem?_eq_getElem hj]
theorem mput_idx (k : κ) (v : Value) : ∀ M : List (κ × Value), mput M k v = match M.findIdx? fun p => decide (p.1 = k) with
    | some j => M.set j (k, v)
    | none => M ++ [(k, v)]
  | [] => rfl
  | p :: r => by
    simp only [mput, List.findIdx?_cons]
    split
    · rename_i h; simp [h]
    · rename_i h; simp only [h, decide_false]; rw [mput_idx k v r]
      cases hf : (r.findIdx? fun p => decide (p.1 = k)) <;> simp
/-- What a store into the map leaves. -/
theorem MapOf.update (h : MapOf K w b M) (ht : P.underlying t = some (.map kt et)) (hk : P.underlying kt = some K.kd) (k : κ) (v : Value) :
    ∃ w1, (Instr.mapUpdate t (.map (some b)) (K.enc k) v).run P w = .ok () w1 ∧ MapOf K w1 b (mput M k v) ∧ w.grownBy w1 (some b) := by
  have hlt := h.lt K
  obtain ⟨es, c, h1, h2⟩ := h
  have h3 := findNow_of K k es.toList M 0 h2
  have hch : (Instr.checkKey false 10000 kt (K.enc k)).run P w = .ok () w := K.check P false 9999 kt k w hk
  have hgb : ∀ o : Obj, w.grownBy { w with heap := w.heap.setIfInBounds b o } (some b) := fun o => ⟨rfl, rfl, rfl, by simp, fun i hi hne => by
    simp only [Array.getElem?_setIfInBounds]
    rw [if_neg (fun e => hne (by rw [e]))]⟩
  have hlen : es.size = M.length := by have := congrArg List.length h2; simpa using this
  cases hf : (M.findIdx? fun p => decide (p.1 = k)) with
  | none =>
    refine ⟨{ w with heap := w.heap.setIfInBounds b (.map (es.push { key := K.enc k, val := v, born := c }) (c + 1)) }, ?_, ⟨es.push { key := K.enc k, val := v, born := c }, c + 1, by simp [hlt], ?_⟩, hgb _⟩
    · simp [Instr.mapUpdate, getObj, setObj, Sem.run, run_underlying ht, h1, hch, Instr.findKey, run_underlying hk, h3, hf]
    · rw [mput_idx, hf]; simp [h2]
  | some j =>
    have hj : j < M.length := by have := List.findIdx?_eq_some_iff_findIdx_eq.1 hf; exact this.1
    have hpj : M[j].1 = k := by
      have := List.findIdx?_eq_some_iff_getElem.1 hf
      obtain ⟨h5, h6, _⟩ := this
      simpa using h6
    have hje : j < es.size := by omega
    have hkey : es[j].key = K.enc k := by
      have h7 := congrArg (fun l => l[j]?) h2
      simp only [List.getElem?_map, Array.getElem?_toList, List.getElem?_eq_getElem hj, Array.getElem?_eq_getElem hje, Option.map_some, Option.some.injEq, Prod.mk.injEq] at h7
      rw [h7.1, hpj]
    have hst : (Instr.keyThatStays (K.enc k) (K.enc k)).run P w = .ok (K.enc k) w := by simp [Instr.keyThatStays, K.bits]
    refine ⟨{ w with heap := w.heap.setIfInBounds b (.map (es.modify j fun e => { e with key := K.enc k, val := v }) c) }, ?_, ⟨es.modify j fun e => { e with key := K.enc k, val := v }, c, by simp [hlt], ?_⟩, hgb _⟩
    · simp [Instr.mapUpdate, getObj, setObj, Sem.run, run_underlying ht, h1, hch, Instr.findKey, run_underlying hk, h3, hf, List.getElem?_eq_getElem hj, Array.getElem?_eq_getElem hje, hkey, hst]
    · rw [mput_idx, hf]
      simp only [Array.toList_modify, List.map_set]
      apply List.ext_getElem?
      intro i
      have h8 := congrArg (fun l => l[i]?) h2
      simp only [List.getElem?_map, Array.getElem?_toList] at h8
      by_cases hij : j = i
      · subst hij; simp [List.getElem?_modify, Array.getElem?_eq_getElem hje, hj]
      · simp only [List.getElem?_map, List.getElem?_modify, hij, if_false, Option.map_id_fun', id, Array.getElem?_toList, List.getElem?_set_ne hij]
        simpa using h8
section
variable {ops : Array Oper} {rest : List Oper} {o : Oper} {a : Act} {Q : Exit → Act → World → Prop}
theorem map_lookup (hg : o.guard = none) (m x : Operand) (ok : Bool) (hop : o.op = Op.lookup t m x ok) (ht : P.underlying t = some (.map kt et)) (hk : P.underlying kt = some K.kd) {z : Value} (hz : ∀ w, (zeroValue et).run P w = .ok z w)
    (h : MapOf K w b M) (hm : a.eval m = .map (some b)) (k : κ) (hx : a.eval x = K.enc k) (hK : wpList P ops Q rest (a.put o.dst (if ok then .tuple #[(mget M k).getD z, .bool (mget M k).isSome] else (mget M k).getD z)) w) : wpList P ops Q (o :: rest) a w := by
  refine wpList_plain hg fun K' hK' => ?_
  unfold Oper.wp
  simp [execOp, hop, hm, hx, h.lookup K ht hk (hz w) k ok, Result.andThen]
  exact hK' _ _ hK
theorem map_update (hg : o.guard = none) (m x v : Operand) (hop : o.op = Op.mapUpdate t m x v) (ht : P.underlying t = some (.map kt et)) (hk : P.underlying kt = some K.kd)
    (h : MapOf K w b M) (hm : a.eval m = .map (some b)) (k : κ) (hx : a.eval x = K.enc k) (u : Value) (hv : a.eval v = u) (hK : ∀ w1, MapOf K w1 b (mput M k u) → w.grownBy w1 (some b) → wpList P ops Q rest (a.put o.dst undef) w1) : wpList P ops Q (o :: rest) a w := by
  refine wpList_plain hg fun K' hK' => ?_
  obtain ⟨w1, hr, h1, h2⟩ := h.update K ht hk k u
  unfold Oper.wp
  simp [execOp, hop, hm, hx, hv, hr, Result.andThen]
  exact hK' _ _ (hK w1 h1 h2)
end
end
end Go.Proofs.YtgmdgaioiifgnaaGreat
