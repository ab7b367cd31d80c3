/- The plain law of the log: what was appended is read again, and of a cut log what was whole. -/
import Derived.Test.YtgmdgaioiifgnaaGreatCodec
set_option linter.unusedVariables false
set_option linter.unusedSimpArgs false
namespace Go.Proofs.YtgmdgaioiifgnaaGreat
open Go.RowKit Go.Proofs.YtgmdgaioiifgnaaGreatW.PrintWords
theorem ba_ext {a b : ByteArray} (h : a.data.toList = b.data.toList) : a = b := by
  cases a; cases b
  congr
  exact Array.toList_inj.1 h
theorem emp_app (s : ByteArray) : (⟨#[]⟩ : ByteArray) ++ s = s := by
  have := ByteArray.empty_append (b := s)
  exact this
theorem ba_size (a : ByteArray) : a.size = a.data.toList.length := Lib.size_eq a
/-- The seven bytes ahead of a part. -/
def headB (k : Int) (s : ByteArray) : ByteArray := strOfNums [k, (s.size : Int) % 256, (s.size : Int) / 256 % 256, crc s % 256, crc s / 256 % 256, crc s / 65536 % 256, crc s / 16777216]
theorem partOf_head (k : Int) (s : ByteArray) : partOf k s = headB k s ++ s := rfl
theorem headB_size (k : Int) (s : ByteArray) : (headB k s).size = 7 := by rw [headB, strOfNums_size]; rfl
theorem headB_len (k : Int) (s : ByteArray) : (headB k s).data.toList.length = 7 := by rw [← ba_size, headB_size]
theorem headB_kind (k : Int) (s : ByteArray) (h0 : 1 ≤ k) (h1 : k ≤ 4) : bt (headB k s) 0 = k := by
  have := bt_strOfNums (l := [k, (s.size : Int) % 256, (s.size : Int) / 256 % 256, crc s % 256, crc s / 256 % 256, crc s / 65536 % 256, crc s / 16777216]) (k := 0) (by simp) (by simp; omega) (by simp; omega)
  simpa [headB] using this
theorem headB_n (k : Int) (s : ByteArray) (hs : s.size < 65536) : (headLen (headB k s)).toNat = s.size := by
  have h1 := bt_strOfNums (l := [k, (s.size : Int) % 256, (s.size : Int) / 256 % 256, crc s % 256, crc s / 256 % 256, crc s / 65536 % 256, crc s / 16777216]) (k := 1) (by simp) (by simp; omega) (by simp; omega)
  have h2 := bt_strOfNums (l := [k, (s.size : Int) % 256, (s.size : Int) / 256 % 256, crc s % 256, crc s / 256 % 256, crc s / 65536 % 256, crc s / 16777216]) (k := 2) (by simp) (by simp; omega) (by simp; omega)
  simp only [List.getElem_cons_succ, List.getElem_cons_zero] at h1 h2
  have e1 : bt (headB k s) 1 = (s.size : Int) % 256 := h1
  have e2 : bt (headB k s) 2 = (s.size : Int) / 256 % 256 := h2
  rw [headLen, e1, e2]
  omega
theorem hasPrefix_app (p x : List UInt8) : Lib.hasPrefix (p ++ x) p = true := by
  unfold Lib.hasPrefix
  rw [List.isPrefixOf_iff_prefix]
  exact List.prefix_append _ _
theorem hasPrefix_short {p x : List UInt8} (h : x.length < p.length) : Lib.hasPrefix x p = false := by
  by_cases hx : Lib.hasPrefix x p = true
  · unfold Lib.hasPrefix at hx
    rw [List.isPrefixOf_iff_prefix] at hx
    have := hx.length_le
    omega
  · simpa using hx
/-- One part at its place. -/
theorem step_part {log : ByteArray} {A T : List UInt8} {k : Int} {s : ByteArray} {in_ : Bool} (hlog : log.data.toList = A ++ (padL A.length ++ ((partOf k s).data.toList ++ T))) (k0 : 1 ≤ k) (k1 : k ≤ 4) (hin : kindBegins k = !in_)
    (hs : s.size + 7 ≤ 128 - (A.length + (padL A.length).length) % 128) : readStep log A.length in_ = some (A.length + (padL A.length).length + 7 + s.size, k, s) := by
  have hlen : log.size = A.length + ((padL A.length).length + (7 + s.size + T.length)) := by
    rw [ba_size, hlog]; simp only [List.length_append, partOf_size]
  have hd : log.data.toList = (A ++ padL A.length) ++ ((headB k s).data.toList ++ (s.data.toList ++ T)) := by
    rw [hlog, partOf_head, ByteArray.data_append, Array.toList_append]; simp only [List.append_assoc]
  have hq : (A ++ padL A.length).length = A.length + (padL A.length).length := by simp
  have hh : log.extract (A.length + (padL A.length).length) (A.length + (padL A.length).length + 7) = headB k s := by
    apply ba_ext
    rw [Lib.extract_data, hd, ← hq, List.drop_left, show (A ++ padL A.length).length + 7 - (A ++ padL A.length).length = (headB k s).data.toList.length by rw [headB_len]; omega, List.take_left]
  have hd2 : log.data.toList = (A ++ padL A.length ++ (headB k s).data.toList) ++ (s.data.toList ++ T) := by rw [hd]; simp only [List.append_assoc]
  have hq2 : (A ++ padL A.length ++ (headB k s).data.toList).length = A.length + (padL A.length).length + 7 := by rw [List.length_append, headB_len, hq]
  have hs2 : log.extract (A.length + (padL A.length).length + 7) (A.length + (padL A.length).length + 7 + s.size) = s := by
    apply ba_ext
    rw [Lib.extract_data, hd2, ← hq2, List.drop_left, show (A ++ padL A.length ++ (headB k s).data.toList).length + s.size - (A ++ padL A.length ++ (headB k s).data.toList).length = s.data.toList.length by rw [← ba_size]; omega, List.take_left]
  have hn := headB_n k s (by omega)
  have hk := headB_kind k s k0 k1
  unfold readStep
  simp only
  rw [if_neg, if_neg, hh, hn, if_neg, hs2, hk, if_neg]
  · rintro (h | h | h | h)
    · omega
    · omega
    · rw [hin] at h; cases in_ <;> cases h
    · exact h (partOf_head k s)
  · omega
  · omega
  · rw [hlog, List.drop_left, hasPrefix_app]; simp
/-- A part that was cut. -/
theorem step_cut {log : ByteArray} {A : List UInt8} {m : Nat} {k : Int} {s : ByteArray} {in_ : Bool} (hlog : log.data.toList = A ++ (padL A.length ++ (partOf k s).data.toList).take m) (hm : m < (padL A.length).length + 7 + s.size) (hs : s.size < 65536) : readStep log A.length in_ = none := by
  have hlen : log.size = A.length + m := by
    rw [ba_size, hlog, List.length_append, List.length_take, List.length_append, partOf_size]; omega
  by_cases h1 : m < (padL A.length).length
  · unfold readStep
    simp only
    rw [if_pos]
    rw [hlog, List.drop_left]
    exact hasPrefix_short (by rw [List.length_take, List.length_append, partOf_size]; omega)
  · have hp : (padL A.length ++ (partOf k s).data.toList).take m = padL A.length ++ ((partOf k s).data.toList).take (m - (padL A.length).length) := by
      rw [List.take_append, List.take_of_length_le (by omega)]
    by_cases h2 : m < (padL A.length).length + 7
    · unfold readStep
      simp only
      rw [if_neg (by rw [hlog, List.drop_left, hp, hasPrefix_app]; simp), if_pos (by omega)]
    · have hq : (A ++ padL A.length).length = A.length + (padL A.length).length := by simp
      have hd : log.data.toList = (A ++ padL A.length) ++ ((headB k s).data.toList ++ s.data.toList.take (m - (padL A.length).length - 7)) := by
        rw [hlog, hp, partOf_head, ByteArray.data_append, Array.toList_append, List.take_append, headB_len, List.take_of_length_le (by rw [headB_len]; omega)]
        simp only [List.append_assoc]
      have hh : log.extract (A.length + (padL A.length).length) (A.length + (padL A.length).length + 7) = headB k s := by
        apply ba_ext
        rw [Lib.extract_data, hd, ← hq, List.drop_left, show (A ++ padL A.length).length + 7 - (A ++ padL A.length).length = (headB k s).data.toList.length by rw [headB_len]; omega, List.take_left]
      have hn := headB_n k s hs
      unfold readStep
      simp only
      rw [if_neg (by rw [hlog, List.drop_left, hp, hasPrefix_app]; simp), if_neg (by omega), hh, hn, if_pos (by omega)]
theorem step_end {log : ByteArray} {A : List UInt8} {in_ : Bool} (hlog : log.data.toList = A) : readStep log A.length in_ = none :=
  step_cut (m := 0) (k := 1) (s := ⟨#[]⟩) (by rw [hlog]; simp) (by omega) (by decide)
theorem appGo_ext : ∀ (m : Nat) (first : Bool) (L : List UInt8) (r : ByteArray), appMu first L r = m → ∃ E, appGo first L r = L ++ E := by
  intro m
  induction m using Nat.strongRecOn with
  | ind m ih =>
    intro first L r hm
    by_cases h : first = false ∧ r.size = 0
    · exact ⟨[], by rw [appGo, dif_pos h]; simp⟩
    · obtain ⟨E, hE⟩ := ih _ (by rw [← hm]; exact appMu_lt first L r h) false (roundL first L r) (r.extract (takeN L r) r.size) rfl
      rw [appGo_next h] at hE
      exact ⟨padL L.length ++ ((partOf (kindN first (takeN L r == r.size)) (r.extract 0 (takeN L r))).data.toList ++ E), by rw [hE, roundL, paddedL]; simp only [List.append_assoc]⟩
theorem takeN_left (L : List UInt8) (r : ByteArray) : takeN L r + 7 ≤ 128 - (L.length + (padL L.length).length) % 128 := by
  have := paddedL_left L
  have h2 : takeN L r ≤ leftL (paddedL L) - 7 := Nat.min_le_right _ _
  have h3 : leftL (paddedL L) = 128 - (L.length + (padL L.length).length) % 128 := by simp [leftL, paddedL]
  omega
theorem kindN_begins (a b : Bool) : kindBegins (kindN a b) = !(!a) := by cases a <;> cases b <;> decide
theorem kindN_last (a : Bool) : ¬ (kindN a true = 2 ∨ kindN a true = 3) := by cases a <;> decide
theorem kindN_more (a : Bool) : kindN a false = 2 ∨ kindN a false = 3 := by cases a <;> decide
theorem take_size (L : List UInt8) (r : ByteArray) : (r.extract 0 (takeN L r)).size = takeN L r := extract_size0 r _ (Nat.min_le_left _ _)
theorem rest_size (L : List UInt8) (r : ByteArray) : (r.extract (takeN L r) r.size).size = r.size - takeN L r := by simp [ByteArray.size_extract]
theorem take_rest (L : List UInt8) (r : ByteArray) : r.extract 0 (takeN L r) ++ r.extract (takeN L r) r.size = r := by
  apply ba_ext
  rw [ByteArray.data_append, Array.toList_append, Lib.extract_data, Lib.extract_data]
  simp only [List.drop_zero, Nat.sub_zero]
  rw [List.take_of_length_le (l := r.data.toList.drop (takeN L r)) (by rw [List.length_drop, ← ba_size]; omega), List.take_append_drop]
theorem take_all {L : List UInt8} {r : ByteArray} (h : takeN L r = r.size) : r.extract 0 (takeN L r) = r := by
  apply ba_ext
  rw [h, Lib.extract_data, List.drop_zero, List.take_of_length_le (by rw [← ba_size]; omega)]
theorem round_len (first : Bool) (L : List UInt8) (r : ByteArray) : (roundL first L r).length = L.length + (padL L.length).length + 7 + takeN L r := by rw [roundL_length]; simp [paddedL]
/-- The step over one part of what was appended, whatever stands behind. -/
theorem step_round {log : ByteArray} {first : Bool} {L T : List UInt8} {r : ByteArray} (hlog : log.data.toList = roundL first L r ++ T) : readStep log L.length (!first) = some ((roundL first L r).length, kindN first (takeN L r == r.size), r.extract 0 (takeN L r)) := by
  have h := step_part (log := log) (A := L) (T := T) (k := kindN first (takeN L r == r.size)) (s := r.extract 0 (takeN L r)) (in_ := !first) (by rw [hlog, roundL, paddedL]; simp only [List.append_assoc]) (kind_range _ _).1 (kind_range _ _).2 (kindN_begins _ _) (by rw [take_size]; exact takeN_left L r)
  rw [h, round_len, take_size]
/-- What was appended is read, whatever stands behind. -/
theorem readGo_app : ∀ (m : Nat) (first : Bool) (L T : List UInt8) (r opn log : ByteArray), appMu first L r = m → ¬ (first = false ∧ r.size = 0) → log.data.toList = appGo first L r ++ T →
    readGo log L.length opn (!first) = (opn ++ r, ((appGo first L r).length : Int)) :: readGo log (appGo first L r).length ⟨#[]⟩ false := by
  intro m
  induction m using Nat.strongRecOn with
  | ind m ih =>
    intro first L T r opn log hm h hlog
    obtain ⟨E, hE⟩ := appGo_ext _ false (roundL first L r) (r.extract (takeN L r) r.size) rfl
    rw [appGo_next h] at hE
    have hst := step_round (log := log) (first := first) (L := L) (T := E ++ T) (r := r) (by rw [hlog, hE, List.append_assoc])
    by_cases hn : takeN L r = r.size
    · have hk : (takeN L r == r.size) = true := by simp [hn]
      rw [hk] at hst
      have hend : appGo first L r = roundL first L r := by
        rw [← appGo_next h, appGo_end _ _ (by rw [rest_size]; omega)]
      rw [readGo_done hst (kindN_last first), take_all hn, hend]
    · have hk : (takeN L r == r.size) = false := by simp [hn]
      rw [hk] at hst
      have hlt : takeN L r ≤ r.size := Nat.min_le_left _ _
      have h2 := ih _ (by rw [← hm]; exact appMu_lt first L r h) false (roundL first L r) T (r.extract (takeN L r) r.size) (opn ++ r.extract 0 (takeN L r)) log rfl (by rw [rest_size]; simp; omega) (by rw [appGo_next h]; exact hlog)
      rw [appGo_next h] at h2
      rw [readGo_more hst (kindN_more first)]
      rw [show (!false) = true from rfl] at h2
      rw [h2, ByteArray.append_assoc, take_rest]
/-- Of what was cut off in the middle nothing is read. -/
theorem readGo_cut : ∀ (m : Nat) (first : Bool) (L : List UInt8) (c : Nat) (r opn log : ByteArray), appMu first L r = m → ¬ (first = false ∧ r.size = 0) → L.length ≤ c → c < (appGo first L r).length → log.data.toList = (appGo first L r).take c →
    readGo log L.length opn (!first) = [] := by
  intro m
  induction m using Nat.strongRecOn with
  | ind m ih =>
    intro first L c r opn log hm h hc0 hc1 hlog
    obtain ⟨E, hE⟩ := appGo_ext _ false (roundL first L r) (r.extract (takeN L r) r.size) rfl
    rw [appGo_next h] at hE
    by_cases hc : c < (roundL first L r).length
    · have hst : readStep log L.length (!first) = none := by
        refine step_cut (m := c - L.length) (k := kindN first (takeN L r == r.size)) (s := r.extract 0 (takeN L r)) ?_ ?_ ?_
        · rw [hlog, hE, List.take_append_of_le_length (by omega), roundL, paddedL, List.append_assoc, List.take_append, List.take_of_length_le (by omega)]
        · rw [round_len] at hc; rw [take_size]; omega
        · have := takeN_left L r; rw [take_size]; omega
      exact readGo_none hst
    · have hst := step_round (log := log) (first := first) (L := L) (T := E.take (c - (roundL first L r).length)) (r := r) (by rw [hlog, hE, List.take_append, List.take_of_length_le (by omega)])
      have hn : takeN L r ≠ r.size := by
        intro hn
        have hend : appGo first L r = roundL first L r := by
          rw [← appGo_next h, appGo_end _ _ (by rw [rest_size]; omega)]
        rw [hend] at hc1
        omega
      have hk : (takeN L r == r.size) = false := by simp [hn]
      rw [hk] at hst
      have hlt : takeN L r ≤ r.size := Nat.min_le_left _ _
      rw [readGo_more hst (kindN_more first)]
      exact ih _ (by rw [← hm]; exact appMu_lt first L r h) false (roundL first L r) c (r.extract (takeN L r) r.size) (opn ++ r.extract 0 (takeN L r)) log rfl (by rw [rest_size]; simp; omega) (by omega) (by rw [appGo_next h]; exact hc1) (by rw [appGo_next h]; exact hlog)
/-! ### Many records -/
def logL : List UInt8 → List ByteArray → List UInt8
  | L, [] => L
  | L, p :: ps => logL (appGo true L p) ps
def endsL : List UInt8 → List ByteArray → List Int
  | _, [] => []
  | L, p :: ps => ((appGo true L p).length : Int) :: endsL (appGo true L p) ps
theorem endsL_length : ∀ (ps : List ByteArray) (L : List UInt8), (endsL L ps).length = ps.length
  | [], _ => rfl
  | p :: ps, L => by rw [endsL, List.length_cons, endsL_length ps, List.length_cons]
theorem logL_ext : ∀ (ps : List ByteArray) (L : List UInt8), ∃ E, logL L ps = L ++ E
  | [], L => ⟨[], by simp [logL]⟩
  | p :: ps, L => by
    obtain ⟨E, hE⟩ := logL_ext ps (appGo true L p)
    obtain ⟨F, hF⟩ := appGo_ext _ true L p rfl
    exact ⟨F ++ E, by rw [logL, hE, hF, List.append_assoc]⟩
theorem appGo_longer (L : List UInt8) (p : ByteArray) : L.length < (appGo true L p).length := by
  have h : ¬ (true = false ∧ p.size = 0) := by simp
  obtain ⟨E, hE⟩ := appGo_ext _ false (roundL true L p) (p.extract (takeN L p) p.size) rfl
  rw [appGo_next h] at hE
  rw [hE, List.length_append, round_len]
  omega
theorem read_log : ∀ (ps : List ByteArray) (L : List UInt8) (c : Nat) (log : ByteArray), L.length ≤ c → c ≤ (logL L ps).length → log.data.toList = (logL L ps).take c →
    readGo log L.length ⟨#[]⟩ false = (ps.zip (endsL L ps)).takeWhile (fun x => decide (x.2 ≤ (c : Int)))
  | [], L, c, log, h0, h1, hl => by
    simp only [logL] at h1 hl
    rw [List.take_of_length_le (by omega)] at hl
    rw [readGo_none (step_end hl)]
    rfl
  | p :: ps, L, c, log, h0, h1, hl => by
    have hlong := appGo_longer L p
    obtain ⟨E, hE⟩ := logL_ext ps (appGo true L p)
    simp only [logL] at h1 hl
    by_cases hc : c < (appGo true L p).length
    · have := readGo_cut _ true L c p ⟨#[]⟩ log rfl (by simp) h0 hc (by rw [hl, hE, List.take_append_of_le_length (by omega)])
      rw [show (!true) = false from rfl] at this
      rw [this, endsL, List.zip_cons_cons, List.takeWhile_cons, if_neg (by simp; omega)]
    · have h2 := readGo_app _ true L (E.take (c - (appGo true L p).length)) p ⟨#[]⟩ log rfl (by simp) (by rw [hl, hE, List.take_append, List.take_of_length_le (by omega)])
      rw [show (!true) = false from rfl] at h2
      rw [h2, endsL, List.zip_cons_cons, List.takeWhile_cons, if_pos (by simp; omega), read_log ps (appGo true L p) c log (by omega) h1 hl]
      congr 2
/-! ### How long a log becomes -/
theorem appGo_aligned : ∀ (m : Nat) (L : List UInt8) (r : ByteArray), r.size = m → L.length % 128 = 0 → (appGo false L r).length ≤ L.length + r.size + 7 * ((r.size + 120) / 121) := by
  intro m
  induction m using Nat.strongRecOn with
  | ind m ih =>
    intro L r hm hL
    by_cases h0 : r.size = 0
    · rw [appGo_end _ _ h0]; omega
    · have h : ¬ (false = false ∧ r.size = 0) := fun h => h0 h.2
      have hp : padL L.length = [] := by rw [padL, if_neg (by omega)]
      have hr := round_len false L r
      rw [hp, List.length_nil] at hr
      have ht : takeN L r = min r.size 121 := by unfold takeN leftL paddedL; rw [hp, List.append_nil]; omega
      rw [← appGo_next h]
      by_cases hn : r.size ≤ 121
      · rw [appGo_end _ _ (by rw [rest_size]; omega), hr]; omega
      · have h2 := ih _ (by rw [rest_size]; omega) (roundL false L r) (r.extract (takeN L r) r.size) rfl (by omega)
        rw [rest_size] at h2
        omega
theorem appGo_size (L : List UInt8) (r : ByteArray) : (appGo true L r).length ≤ L.length + 13 + r.size + 7 * ((r.size + 120) / 121) := by
  have h : ¬ (true = false ∧ r.size = 0) := by simp
  have hr := roundL_length true L r
  have hp := paddedL_left L
  rw [← appGo_next h]
  have hle : takeN L r ≤ r.size := Nat.min_le_left _ _
  by_cases hn : takeN L r = r.size
  · rw [appGo_end _ _ (by rw [rest_size]; omega), hr]; omega
  · have ht2 : takeN L r = leftL (paddedL L) - 7 := by
      unfold takeN at hn ⊢
      omega
    have hm : (roundL true L r).length % 128 = 0 := by rw [hr, ht2]; unfold leftL at *; omega
    have h2 := appGo_aligned _ (roundL true L r) (r.extract (takeN L r) r.size) rfl hm
    rw [rest_size] at h2
    omega
theorem logL_app (L : List UInt8) (ps : List ByteArray) (p : ByteArray) : logL L (ps ++ [p]) = appGo true (logL L ps) p := by
  induction ps generalizing L with
  | nil => rfl
  | cons x xs ih => exact ih _
theorem endsL_app (L : List UInt8) (ps : List ByteArray) (p : ByteArray) : endsL L (ps ++ [p]) = endsL L ps ++ [((appGo true (logL L ps) p).length : Int)] := by
  induction ps generalizing L with
  | nil => rfl
  | cons x xs ih => simp only [List.cons_append, endsL, logL]; rw [ih]
theorem logL_size : ∀ (ps : List ByteArray), (∀ p ∈ ps, p.size ≤ 20000) → ps.length ≤ 20 → (logL [] ps).length ≤ 21175 * ps.length := by
  intro ps
  suffices h : ∀ (ps : List ByteArray) (L : List UInt8), (∀ p ∈ ps, p.size ≤ 20000) → (logL L ps).length ≤ L.length + 21175 * ps.length from fun h1 _ => by have := h ps [] h1; simpa using this
  intro ps
  induction ps with
  | nil => intro L _; simp [logL]
  | cons x xs ih =>
    intro L h
    have h1 := ih (appGo true L x) (fun p hp => h p (List.mem_cons_of_mem _ hp))
    have h2 := appGo_size L x
    have h3 := h x List.mem_cons_self
    simp only [logL, List.length_cons]
    omega
theorem append_fits {ps : List ByteArray} {p : ByteArray} (hps : ∀ q ∈ ps, q.size ≤ 20000) (hl : ps.length < 20) (hp : p.size ≤ 20000) : appendLog ⟨(logL [] ps).toArray⟩ p = (⟨(logL [] (ps ++ [p])).toArray⟩, 0) := by
  have h := logL_size (ps ++ [p]) (fun q hq => by rcases List.mem_append.1 hq with h | h; exact hps q h; rw [List.mem_singleton.1 h]; exact hp) (by simp; omega)
  rw [logL_app] at h
  rw [appendLog, if_neg (by omega), if_neg, logL_app]
  · simp only [List.length_append, List.length_cons, List.length_nil] at h
    show ¬ 1000000 < (appGo true (logL [] ps) p).length
    omega
/-! ### Which records lie whole in a cut log -/
def wholeN (ps : List ByteArray) (c : Int) : Nat := ((endsL [] ps).takeWhile (fun e => decide (e ≤ c))).length
theorem takeWhile_zip (c : Int) : ∀ (ps : List ByteArray) (es : List Int), ps.length = es.length → (ps.zip es).takeWhile (fun x => decide (x.2 ≤ c)) = (ps.take (es.takeWhile (fun e => decide (e ≤ c))).length).zip (es.take (es.takeWhile (fun e => decide (e ≤ c))).length)
  | [], [], _ => rfl
  | p :: ps, e :: es, h => by
    by_cases he : e ≤ c
    · simp only [List.zip_cons_cons, List.takeWhile_cons, he, decide_true, if_true, List.length_cons, List.take_succ_cons]
      rw [takeWhile_zip c ps es (by simpa using h)]
    · simp [List.takeWhile_cons, he]
theorem wholeN_le (ps : List ByteArray) (c : Int) : wholeN ps c ≤ ps.length := by
  rw [wholeN, ← endsL_length ps []]
  exact (List.takeWhile_prefix _).length_le
/-- Of a cut log the first records are read, and where they end. -/
theorem read_cut (ps : List ByteArray) (c : Nat) (hc : c ≤ (logL [] ps).length) : readAll ⟨((logL [] ps).take c).toArray⟩ = (ps.take (wholeN ps c)).zip ((endsL [] ps).take (wholeN ps c)) := by
  have h := read_log ps [] c ⟨((logL [] ps).take c).toArray⟩ (by simp) hc rfl
  rw [takeWhile_zip _ _ _ (endsL_length ps []).symm] at h
  exact h
theorem endsL_gt : ∀ (ps : List ByteArray) (L : List UInt8) (e : Int), e ∈ endsL L ps → (L.length : Int) < e
  | p :: ps, L, e, h => by
    rcases List.mem_cons.1 h with h | h
    · rw [h]; have := appGo_longer L p; omega
    · have := endsL_gt ps _ e h; have := appGo_longer L p; omega
/-- The loop that looks for the last end that lies in the cut log. -/
def atF (es : List Int) (c : Int) : Nat → Nat
  | 0 => 0
  | i + 1 => if es.getD i 0 ≤ c then i else atF es c i
theorem whole_lt (c : Int) : ∀ (ps : List ByteArray) (L : List UInt8) (i : Nat), i < ps.length → ((endsL L ps).getD i 0 ≤ c ↔ i < ((endsL L ps).takeWhile (fun e => decide (e ≤ c))).length)
  | p :: ps, L, i, h => by
    simp only [endsL]
    by_cases he : ((appGo true L p).length : Int) ≤ c
    · rw [List.takeWhile_cons, if_pos (by simpa using he)]
      cases i with
      | zero => simp [he]
      | succ i =>
        have := whole_lt c ps (appGo true L p) i (by simpa using h)
        simpa using this
    · rw [List.takeWhile_cons, if_neg (by simpa using he)]
      simp only [List.length_nil, Nat.not_lt_zero, iff_false]
      cases i with
      | zero => simpa using he
      | succ i =>
        have hi : i < (endsL (appGo true L p) ps).length := by rw [endsL_length]; simpa using h
        have := endsL_gt ps (appGo true L p) ((endsL (appGo true L p) ps)[i]) (List.getElem_mem hi)
        rw [List.getD_cons_succ, List.getD_eq_getElem?_getD, List.getElem?_eq_getElem hi, Option.getD_some]
        omega
theorem atF_whole (ps : List ByteArray) (c : Int) (h0 : 0 ≤ c) : atF (0 :: endsL [] ps) c (ps.length + 1) = wholeN ps c := by
  have key : ∀ n, n ≤ ps.length → atF (0 :: endsL [] ps) c (n + 1) = min n (wholeN ps c) := by
    intro n
    induction n with
    | zero => intro _; simp [atF]
    | succ n ih =>
      intro hn
      have hw := whole_lt c ps [] n (by omega)
      rw [atF, List.getD_cons_succ]
      by_cases hle : (endsL [] ps).getD n 0 ≤ c
      · rw [if_pos hle]
        have : n < wholeN ps c := hw.1 hle
        omega
      · rw [if_neg hle, ih (by omega)]
        have : ¬ n < wholeN ps c := fun h => hle (hw.2 h)
        omega
  rw [key _ (Nat.le_refl _)]
  have := wholeN_le ps c
  omega
end Go.Proofs.YtgmdgaioiifgnaaGreat
