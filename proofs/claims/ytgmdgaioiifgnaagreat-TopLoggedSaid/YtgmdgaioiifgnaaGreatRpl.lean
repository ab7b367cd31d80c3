/- record.Replay, over a log whose records are packed records that can be learnt one by one. -/
import Derived.Test.YtgmdgaioiifgnaaGreatUnp
import Derived.Test.YtgmdgaioiifgnaaGreatLogr
set_option linter.unusedVariables false
set_option linter.unusedSimpArgs false
namespace Go.Proofs.YtgmdgaioiifgnaaGreat
open Go.RowKit Go.Proofs.YtgmdgaioiifgnaaGreatW.PrintWords
def kFold : Kn → List Rc → Kn
  | k, [] => k
  | k, r :: rs => kFold (learnKn k r).1 rs
def Chain : Kn → List Rc → Prop
  | _, [] => True
  | k, r :: rs => (learnKn k r).2 = 0 ∧ Chain (learnKn k r).1 rs
theorem kFold_app (k : Kn) (a b : List Rc) : kFold k (a ++ b) = kFold (kFold k a) b := by
  induction a generalizing k with
  | nil => rfl
  | cons x xs ih => exact ih _
theorem Chain.app {k : Kn} {a b : List Rc} : Chain k (a ++ b) ↔ Chain k a ∧ Chain (kFold k a) b := by
  induction a generalizing k with
  | nil => simp [Chain, kFold]
  | cons x xs ih => simp [Chain, kFold, ih, and_assoc]
theorem kFold_take {rs : List Rc} {j : Nat} (k : Kn) (h : j < rs.length) : kFold k (rs.take (j + 1)) = (learnKn (kFold k (rs.take j)) rs[j]).1 := by
  rw [List.take_succ_eq_append_getElem h, kFold_app]; rfl
theorem Chain.at {rs : List Rc} {j : Nat} {k : Kn} (hc : Chain k rs) (h : j < rs.length) : (learnKn (kFold k (rs.take j)) rs[j]).2 = 0 := by
  rw [← List.take_append_drop j rs, List.drop_eq_getElem_cons h] at hc
  exact (Chain.app.1 hc).2.1
/-- A record that can be packed and read again. -/
structure RcFit (r : Rc) : Prop where
  ok : checkRc r = 0
  small : (packB r).size ≤ 140737488351232
  bits : ∀ p ∈ r.pts, 0 ≤ p.bits ∧ p.bits ≤ 18446744073709551615
  labs : ∀ x ∈ r.refs, SmallL x.ls
def endAt (ends : List Int) (j : Nat) : Int := if j = 0 then 0 else ends.getD (j - 1) 0
/-- Replay's own variables and the two rows that were read. -/
structure RpS (w wr : World) (recs : List ByteArray) (ends : List Int) (A1 A2 : Option Addr) (c1 c2 : Nat) (k : Kn) (a b c : Value) : Prop where
  out : wr.heap[w.heap.size]? = some (.cells #[.slice none 0 0, .slice none 0 0, .slice none 0 0] 28 (0, 0))
  kb : wr.heap[w.heap.size + 1]? = some (.cells #[a, b, c] 28 (0, 0))
  own : KnO w wr a b c k
  ok : KnOk k
  recs : Row Kd.string 9 w wr (.slice A1 recs.length c1) recs
  ends : Row (Kd.int .i64) 3 w wr (.slice A2 ends.length c2) ends
  below : Below w.heap.size w wr
theorem noKn_str : ∀ q, q ∈ 9 :: Kd.string.E → q ≠ 28 := by decide
theorem RpS.to {w wr w1 : World} {recs : List ByteArray} {ends : List Int} {A1 A2 : Option Addr} {c1 c2 : Nat} {k : Kn} {a b c : Value} (h : RpS w wr recs ends A1 A2 c1 c2 k a b c) (hb : Below wr.heap.size wr w1) : RpS w w1 recs ends A1 A2 c1 c2 k a b c :=
  ⟨block_below' h.out hb, block_below' h.kb hb, h.own.below hb, h.ok, h.recs.below hb, h.ends.below hb, below_step h.below hb⟩
structure RplPost (w : World) (k : Kn) (n : Int) (e : Ending) (w' : World) : Prop where
  ex : ∃ a b c, e = .returned (.tuple #[.agg #[a, b, c], .int .i64 n]) ∧ KnO w w' a b c k
  below : Below w.heap.size w w'
theorem RpS.new (w w2 : World) (hb : Below ((w.alloc (.cells #[.slice none 0 0, .slice none 0 0, .slice none 0 0] 28)).alloc (.cells #[.slice none 0 0, .slice none 0 0, .slice none 0 0] 28)).heap.size ((w.alloc (.cells #[.slice none 0 0, .slice none 0 0, .slice none 0 0] 28)).alloc (.cells #[.slice none 0 0, .slice none 0 0, .slice none 0 0] 28)) w2)
    (recs : List ByteArray) (ends : List Int) (A1 A2 : Option Addr) (c1 c2 : Nat) (h1 : Row Kd.string 9 ((w.alloc (.cells #[.slice none 0 0, .slice none 0 0, .slice none 0 0] 28)).alloc (.cells #[.slice none 0 0, .slice none 0 0, .slice none 0 0] 28)) w2 (.slice A1 recs.length c1) recs)
    (h2 : Row (Kd.int .i64) 3 ((w.alloc (.cells #[.slice none 0 0, .slice none 0 0, .slice none 0 0] 28)).alloc (.cells #[.slice none 0 0, .slice none 0 0, .slice none 0 0] 28)) w2 (.slice A2 ends.length c2) ends) :
    RpS w w2 recs ends A1 A2 c1 c2 zKn (.slice none 0 0) (.slice none 0 0) (.slice none 0 0) := by
  have s1 : (w.alloc (.cells #[.slice none 0 0, .slice none 0 0, .slice none 0 0] 28)).heap.size = w.heap.size + 1 := by simp
  refine ⟨block_below' (block_below' (heap_alloc_new w _) (below_alloc (Below.refl _ _) _)) hb, block_below' (heap_alloc2_new w _ _) hb, zKnO _ _, zKnOk, h1.lower (by simp; omega), h2.lower (by simp; omega), below_step (below_alloc (below_alloc (Below.refl _ _) _) _) hb⟩
/-- What is known is written anew. -/
theorem RpS.next {w w6 W3 : World} {recs : List ByteArray} {ends : List Int} {A1 A2 : Option Addr} {c1 c2 : Nat} {k k2 : Kn} {a b c : Value} (h : RpS w w6 recs ends A1 A2 c1 c2 k a b c) {Ar Al Ah : Option Addr} {cr cl ch g : Nat} {ws : World} (hL : LSt ws W3 w6 g k2 Ar Al Ah cr cl ch) (hk : KnOk k2) (hs : w.heap.size ≤ W3.heap.size) :
    RpS w (w6.setRow (w.heap.size + 1) #[.slice Ar k2.refs.length cr, .slice Al k2.lasts.length cl, .slice Ah k2.has.length ch]) recs ends A1 A2 c1 c2 k2 (.slice Ar k2.refs.length cr) (.slice Al k2.lasts.length cl) (.slice Ah k2.has.length ch) := by
  have hg : w6.grownBy (w6.setRow (w.heap.size + 1) #[.slice Ar k2.refs.length cr, .slice Al k2.lasts.length cl, .slice Ah k2.has.length ch]) (some (w.heap.size + 1)) := grown_setRow (World.grownBy.refl w6 _) _ _ (.inl rfl)
  exact ⟨(setRow_other _ _ _ _ (by omega)).trans h.out, setRow_heap _ _ _ _ _ _ h.kb, ⟨Row.typed (hL.refs.lower hs) h.kb noKn_ref hg, Row.typed (hL.lasts.lower hs) h.kb noKn_int hg, Row.typed (hL.has.lower hs) h.kb noKn_bool hg⟩, hk, Row.typed h.recs h.kb noKn_str hg, Row.typed h.ends h.kb noKn_int hg, h.below.grown hg h.below.size (fun i hi => by injection hi with hi; omega)⟩
set_option maxHeartbeats 4000000 in
set_option maxRecDepth 100000 in
theorem replay_calls (log : ByteArray) (rs : List Rc) (ends : List Int) (w : World) (hs : log.size ≤ 1099511627776) (hl : ends.length = rs.length) (hlog : readAll log = (rs.map packB).zip ends) (hf : ∀ r ∈ rs, RcFit r) (hc : Chain zKn rs) :
    Calls Tryz.prog 9 #[.string log] w (RplPost w (kFold zKn rs) (endAt ends rs.length)) := by
  have HS := Aside0.mk hs
  have HF := Aside0.mk hf
  have HC := Aside0.mk hc
  have HM1 := Aside0.mk (show (readAll log).map (·.1) = rs.map packB by rw [hlog]; exact List.map_fst_zip (by simp; omega))
  have HM2 := Aside0.mk (show (readAll log).map (·.2) = ends by rw [hlog]; exact List.map_snd_zip (by simp; omega))
  have HL := Aside0.mk hl
  clear hs hf hc hlog hl
  go_enter Tryz.func9, Tryz.ntmps9
  go_wp2_with fail
  refine (ends_calls log _ HS.out).mono ?_; intro e w2 hrd
  obtain ⟨l1, l2, v1, v2, hl1, hl2, rfl, h1, h2, hb⟩ := read_rows hrd
  clear hrd
  rw [HM1.out] at hl1
  rw [HM2.out] at hl2
  subst hl2
  obtain ⟨A1, c1, rfl, q1, k1⟩ := h1.reads
  obtain ⟨A2, c2, rfl, q2, k2⟩ := h2.reads
  have hN : l1.length = rs.length := by rw [hl1]; simp
  have hln : (l1.length : Int) ≤ 9223372036854775807 := by have := k1.2.1; omega
  have HE := Aside0.mk hl1
  have HP := Aside0.mk (RpS.new w w2 hb l1 l2 A1 A2 c1 c2 h1 h2)
  clear h1 h2 k1 k2 hb hl1
  have x0 := cell_head HP.out.kb
  go_wp2_with fail
  go_loopw [5, 20] (fun n i wr => ∃ (j : Nat) (a b c : Value), j ≤ l1.length ∧ i = .int .i64 j ∧ n = .int .i64 (endAt l2 j) ∧ Aside0 (RpS w wr l1 l2 A1 A2 c1 c2 (kFold zKn (rs.take j)) a b c)) (fun _ i _ => l1.length - (intOf i).toNat)
  case atStart => exact ⟨0, _, _, _, by omega, rfl, rfl, HP⟩
  case round =>
    obtain ⟨j, a, b, c, hj, rfl, rfl, HR⟩ := hrel
    clear HP x0
    by_cases hlt : j < l1.length
    · have hltb : (j : Int) < (l1.length : Int) := by omega
      have hj2 : j < rs.length := by omega
      obtain ⟨-, -, k1⟩ := Kd.R_reads' HR.out.recs
      obtain ⟨ad, rfl, x1⟩ := Kd.at_string k1 j (by omega) hltb
      rw [Int.toNat_natCast, show rdOf ByteArray.empty l1 (j : Int) = packB rs[j] by simp [rdOf, HE.out, List.getD_eq_getElem?_getD, List.getElem?_eq_getElem hj2]] at x1
      have HFr := Aside0.mk (HF.out rs[j] (List.getElem_mem hj2))
      have HCr := Aside0.mk (HC.out.at hj2)
      have HKr := Aside0.mk (kFold_take zKn hj2)
      clear k1
      generalize rs[j] = r at *
      generalize hkj : kFold zKn (rs.take j) = kj at *
      clear hkj
      go_wp2_with fail
      refine (unpack_calls r wr HFr.out.small HFr.out.bits HFr.out.ok HFr.out.labs).mono ?_; rintro e w3 ⟨⟨v, rfl, hrc⟩, hb3⟩
      have HR3 := Aside0.mk (HR.out.to hb3)
      obtain ⟨B0, d0, B1, d1, rfl, r0, r1⟩ := hrc.ex
      have HRC := Aside0.mk hrc
      have HR4 := Aside0.mk (HR3.out.to (below_alloc (Below.refl _ _) (.cells #[.int .i64 r.kind, .slice B0 r.refs.length d0, .slice B1 r.pts.length d1] 35)))
      have y0 := cell_head HR4.out.kb
      have y1 := cell_mid HR4.out.kb
      have y2 := cell_last HR4.out.kb
      have RB4 := Aside0.mk (heap_alloc_new w3 (.cells #[.int .i64 r.kind, .slice B0 r.refs.length d0, .slice B1 r.pts.length d1] 35))
      have HV4 := Aside0.mk ((RcO.rcv hrc).below (below_alloc (Below.refl _ _) (.cells #[.int .i64 r.kind, .slice B0 r.refs.length d0, .slice B1 r.pts.length d1] 35)))
      clear hb3 hrc r0 r1
      go_wp2_with fail
      clear y0 y1 y2
      generalize w3.alloc (.cells #[.int .i64 r.kind, .slice B0 r.refs.length d0, .slice B1 r.pts.length d1] 35) = W4 at *
      generalize w3.heap.size = N at *
      clear HR3 HRC HR
      refine (clone_calls _ kj W4 HR4.out.own.reads HR4.out.ok).mono ?_; rintro e w5 ⟨vr, vl, vh, rfl, ho, hb5⟩
      obtain ⟨Ar, cr, rfl⟩ := Kd.R_slice ho.refs
      obtain ⟨Al, cl, rfl⟩ := Kd.R_slice ho.lasts
      obtain ⟨Ah, ch, rfl⟩ := Kd.R_slice ho.has
      have hb6 := below_alloc (Below.refl w5.heap.size w5) (.cells #[.slice Ar kj.refs.length cr, .slice Al kj.lasts.length cl, .slice Ah kj.has.length ch] 28)
      have RB6 := Aside0.mk (block_below' (block_below' RB4.out hb5) hb6)
      have HB6 := Aside0.mk (below_step hb5 hb6)
      have HK6 := Aside0.mk (heap_alloc_new w5 (.cells #[.slice Ar kj.refs.length cr, .slice Al kj.lasts.length cl, .slice Ah kj.has.length ch] 28))
      have HO6 := Aside0.mk (ho.below hb6)
      have HZ6 := Aside0.mk hb5.size
      have y0 := cell_head RB6.out
      have y1 := cell_mid RB6.out
      have y2 := cell_last RB6.out
      clear ho hb5 hb6
      go_wp2_with fail
      clear y0 y1 y2
      generalize w5.alloc (.cells #[.slice Ar kj.refs.length cr, .slice Al kj.lasts.length cl, .slice Ah kj.has.length ch] 28) = W6 at *
      generalize w5.heap.size = N2 at *
      refine (learn_calls W6 W4 W6 N2 kj r _ Ar Al Ah cr cl ch HR4.out.ok (rc_rfok HFr.out.ok HFr.out.labs) ⟨HZ6.out, HK6.out, HO6.out.refs, HO6.out.lasts, HO6.out.has, HB6.out, fun _ _ _ h2 => h2⟩ HV4.out).mono ?_; rw [HCr.out]; rintro e w7 ⟨rfl, hok, Ar', Al', Ah', cr', cl', ch', hS7⟩
      have HR7 := Aside0.mk (HR4.out.to hS7.below)
      have HS7 := Aside0.mk hS7
      have HOK := Aside0.mk hok
      obtain ⟨-, -, k2⟩ := Kd.R_reads' HR7.out.ends
      have hltc : (j : Int) < (l2.length : Int) := by have := HL.out; omega
      obtain ⟨ad2, rfl, x2⟩ := Kd.at_int k2 j (by omega) hltc
      rw [Int.toNat_natCast] at x2
      have z0 := cell_head HR7.out.kb
      have z1 := cell_mid HR7.out.kb
      have z2 := cell_last HR7.out.kb
      have z3 := free3 HR7.out.kb
      have u0 := HS7.out.c0
      have u1 := HS7.out.c1
      have u2 := HS7.out.c2
      have HR8 := Aside0.mk (HR7.out.next HS7.out HOK.out (by have := HR4.out.below.size; omega))
      obtain ⟨-, -, k3⟩ := Kd.R_reads' HR8.out.ends
      obtain ⟨ad3, he3, x3⟩ := Kd.at_int k3 j (by omega) hltc
      obtain rfl : ad2 = ad3 := Option.some.inj he3
      rw [Int.toNat_natCast, ← set3 HR7.out.kb] at x3
      clear hS7 hok k2 k3 he3
      go_wp2_with fail
      go_region
      rw [set3 HR7.out.kb]
      have HE2 := Aside0.mk (show rd l2 (j : Int) = endAt l2 (j + 1) by simp [rd, endAt])
      rw [HE2.out]
      rw [← HKr.out] at HR8
      clear z0 z1 z2 z3 u0 u1 u2 x2 x3
      go_wp2_with fail
      go_roundw
      case rel => exact ⟨j + 1, _, _, _, by omega, by go_num, rfl, ⟨by rw [HKr.out] at HR8 ⊢; exact HR8.out.to (below_drew (Below.refl _ _))⟩⟩
      case measure => simp [intOf]; omega
    · obtain rfl : j = l1.length := by omega
      have hltb : ¬ (l1.length : Int) < (l1.length : Int) := by omega
      obtain ⟨Ar, cr, rfl⟩ := Kd.R_slice HR.out.own.refs
      obtain ⟨Al, cl, rfl⟩ := Kd.R_slice HR.out.own.lasts
      obtain ⟨Ah, ch, rfl⟩ := Kd.R_slice HR.out.own.has
      have HT := Aside0.mk (show rs.take l1.length = rs by rw [hN, List.take_length])
      rw [HT.out] at HR
      generalize hkj : kFold zKn rs = kj at *
      clear hkj
      have z0 := cell_head HR.out.kb
      have z1 := cell_mid HR.out.kb
      have z2 := cell_last HR.out.kb
      have u0 := cell_head HR.out.out
      have u1 := cell_mid HR.out.out
      have u2 := cell_last HR.out.out
      have u3 := free3 HR.out.out
      go_wp2_with fail
      try simp only [Exit.inBlock, Exit.then]
      rw [set3 HR.out.out]
      refine bodyPost_ret (results_cell_tmp rfl _ _ w.heap.size 28 #[.slice Ar kj.refs.length cr, .slice Al kj.lasts.length cl, .slice Ah kj.has.length ch] (0, 0) _ rfl (setRow_heap _ _ _ _ _ _ HR.out.out) Tryz.underlying28 rfl (by kernel_rfl)) rfl ?_
      have hg : wr.grownBy (wr.setRow w.heap.size #[.slice Ar kj.refs.length cr, .slice Al kj.lasts.length cl, .slice Ah kj.has.length ch]) (some w.heap.size) := grown_setRow (World.grownBy.refl wr _) _ _ (.inl rfl)
      exact ⟨⟨_, _, _, rfl, ⟨Row.typed HR.out.own.refs HR.out.out noKn_ref hg, Row.typed HR.out.own.lasts HR.out.out noKn_int hg, Row.typed HR.out.own.has HR.out.out noKn_bool hg⟩⟩, HR.out.below.grown hg HR.out.below.size (fun i hi => by injection hi with hi; omega)⟩
end Go.Proofs.YtgmdgaioiifgnaaGreat
