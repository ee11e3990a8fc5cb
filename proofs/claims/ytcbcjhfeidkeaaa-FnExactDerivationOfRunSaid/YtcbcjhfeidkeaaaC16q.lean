/-
  Contracts of chapters 3 and 10: a part of a word found and replaced; the Markov rules of rewriting rules, of the reference.
-/
import Derived.Test.YtcbcjhfeidkeaaaC16p
import Derived.Test.YtcbcjhfeidkeaaaC16k
import Derived.Test.YtcbcjhfeidkeaaaC16l
namespace Go.Proofs.Ytcbcjhfeidkeaaa
open Go.RowKit

theorem l00OwnY_c (A : Option Addr) (n c : Nat) (ws : List Int) (w : World) (h : RdI w A n ws) (hn : n ≤ 1000000) :
    Calls Try.prog 55 #[.slice A n c] w fun e w' => ∃ A' cap, e = .returned (.slice A' n cap) ∧ Own w' w.heap.size 2 1 A' n cap (ws.map i64) ∧ Below w.heap.size w w' := by
  have H := Lib.hid h; clear h
  go_enter Try.func55, Try.ntmps55
  go_wp2_with (at_builtin; refine wp_appA (by rfl) _ _ (by rfl) w.heap.size (some ⟨w.heap.size, 0, none⟩) 0 0 [] (by rfl) (by exact Own.lit (Nat.le_refl _)) A n c ws (by rfl) (by exact H.out.alloc _) (by omega) (by simp) ?_; intro A2 cap w2 own2 hb2 hk2 hg2 hz2)
  rw [Nat.zero_add, List.nil_append] at own2
  have O2 := Lib.hid own2; have B2 := Lib.hid ((below_size.alloc (Nat.le_refl _) (.cells #[] 2)).trans hb2)
  clear own2 hb2 hk2 hg2 hz2
  go_wp2_with fail
  go_ret
  exact ⟨A2, cap, by simp, O2.out, B2.out⟩
theorem l03AtP_c (A : Option Addr) (n c : Nat) (ws : List Int) (a : Nat) (P : Option Addr) (np cp : Nat) (p : List Int) (q : Bool) (w : World) (h : RdI w A n ws) (hp : RdI w P np p) (hnc : n ≤ c) (_hn : n ≤ 1000000) (ha : a ≤ 1000000) (hnp : 1 ≤ np ∧ np ≤ 1000000) (hq : decide (p <+: ws.drop a) = q) :
    Calls Try.prog 91 #[.slice A n c, .int .i64 a, .slice P np cp] w fun e w' => e = .returned (.bool q) ∧ Qt w w' := by
  have hl := h.len; have hlp := hp.len
  have HP := Lib.hid hp
  have v1 : IntKind.i64.wrap ((a : Int) + (np : Int)) = (a : Int) + (np : Int) := IntWalk.i64_in _ (by omega)
  rw [pre_eq, hlp, List.length_drop, hl] at hq
  by_cases h1 : a + np ≤ n
  · have e1 : decide ((a : Int) + (np : Int) ≤ (n : Int)) = true := decide_eq_true (by omega)
    obtain ⟨ad, _, rfl, _, _, _⟩ := RdI.at_ h (k := a) (by omega)
    have HB := Lib.hid (RdI.mid h (i := a) (k := np) h1)
    have HQ := Lib.hid (show eqL ((ws.drop a).take np) p = q by rw [← hq, decide_eq_true (by omega)]; rfl)
    have v2 : ((a : Int) + (np : Int)).toNat = a + np := by omega
    clear hq h hp hl hlp
    go_enter Try.func91, Try.ntmps91
    go_wp2_with fail
    refine (l00Same_c (some (ad.add a)) P np np (c - a) cp ((ws.drop a).take np) p _ (by exact HB.out) (by exact HP.out) (by omega)).mono ?_
    rintro e w1 ⟨rfl, hq1⟩
    rw [HQ.out]
    go_wp2_with fail
    go_ret
    exact ⟨rfl, hq1⟩
  · have e1 : decide ((a : Int) + (np : Int) ≤ (n : Int)) = false := decide_eq_false (by omega)
    have HQ := Lib.hid (show false = q by rw [← hq, decide_eq_false (by omega)]; rfl)
    clear hq h hp hl hlp
    go_enter Try.func91, Try.ntmps91
    go_wp2_with fail
    go_ret
    exact ⟨by first | (rw [← HQ.out]; done) | (rw [← HQ.out]; rfl), (by first | exact Qt.refl _ | exact ⟨_, rfl⟩ | exact Qt.drewN ⟨_, rfl⟩ _)⟩
def findV : Option Nat → Int
  | none => -1
  | some a => (a : Int)
set_option maxHeartbeats 2000000 in
theorem l03Find_c (A : Option Addr) (n c : Nat) (ws : List Int) (P : Option Addr) (np cp : Nat) (p : List Int) (RV : Int) (w : World) (h : RdI w A n ws) (hp : RdI w P np p) (hnc : n ≤ c) (hn : n ≤ 10000) (hnp : 1 ≤ np ∧ np ≤ 10000) (hRV : findV (findW ws p (n + 1) 0) = RV) :
    Calls Try.prog 70 #[.slice A n c, .slice P np cp, .int .i64 0] w fun e w' => e = .returned (.int .i64 RV) ∧ Below w.heap.size w w' := by
  have HL := Lib.hid h.len; have HLP := Lib.hid hp.len
  have H := Lib.hid h; have HP := Lib.hid hp; have HR := Lib.hid hRV
  clear h hp hRV
  go_enter Try.func70, Try.ntmps70
  go_wp2_with fail
  go_loopw [7] (fun av wr => ∃ (a f : Nat), a ≤ n + 1 ∧ Hid (a + f = n + 1) ∧ av = .int .i64 a ∧ Hid (findV (findW ws p f a) = RV) ∧ Below w.heap.size w wr) (fun av _ => n + 1 - (intOf av).toNat)
  case atStart => exact ⟨0, n + 1, by omega, by unfold Hid; omega, rfl, HR.out, below_size⟩
  case round =>
    obtain ⟨a, f, ha, hf, rfl, hr, hb⟩ := hrel
    have HB := Lib.hid hb
    have H1 := Lib.hid (RdI.below H.out hb); have HP1 := Lib.hid (RdI.below HP.out hb)
    have v1 : IntKind.i64.wrap ((a : Int) + (np : Int)) = (a : Int) + (np : Int) := IntWalk.i64_in _ (by omega)
    clear hb
    by_cases h1 : a + np ≤ n
    · have e1 : decide ((a : Int) + (np : Int) ≤ (n : Int)) = true := decide_eq_true (by omega)
      obtain ⟨f', rfl⟩ : ∃ f', f = f' + 1 := ⟨f - 1, by have := hf.out; omega⟩
      obtain ⟨q, hq⟩ : ∃ q, decide (p <+: ws.drop a) = q := ⟨_, rfl⟩
      have HQ := Lib.hid hq
      have HS := Lib.hid (show findV (if p <+: ws.drop a then some a else findW ws p f' (a + 1)) = RV by rw [← hr.out, findW, HL.out, HLP.out, if_pos h1])
      have hf2 := Lib.hid (show a + 1 + f' = n + 1 by have := hf.out; omega)
      clear hr hf
      cases q
      · have HN := Lib.hid (show findV (findW ws p f' (a + 1)) = RV by rw [← HS.out, if_neg (of_decide_eq_false hq)])
        clear HS hq
        go_wp2_with fail
        refine (l03AtP_c A n c ws a P np cp p false wr H1.out HP1.out hnc (by omega) (by omega) (by omega) HQ.out).mono ?_
        rintro e w2 ⟨rfl, ⟨j, rfl⟩⟩
        go_wp2_with fail
        go_roundw
        case rel => exact ⟨a + 1, f', by omega, hf2.out, by go_num, HN.out, below_drewN HB.out _⟩
        case measure => simp [intOf]; omega
      · have HN := Lib.hid (show (a : Int) = RV by rw [← HS.out, if_pos (of_decide_eq_true hq)]; rfl)
        clear HS hq
        go_wp2_with fail
        refine (l03AtP_c A n c ws a P np cp p true wr H1.out HP1.out hnc (by omega) (by omega) (by omega) HQ.out).mono ?_
        rintro e w2 ⟨rfl, ⟨j, rfl⟩⟩
        go_wp2_with fail
        go_ret
        exact ⟨by rw [← HN.out]; rfl, below_drewN HB.out _⟩
    · have e1 : decide ((a : Int) + (np : Int) ≤ (n : Int)) = false := decide_eq_false (by omega)
      have HN := Lib.hid (show (-1 : Int) = RV by
        rw [← hr.out]
        cases f with
        | zero => rfl
        | succ f => rw [findW, HL.out, HLP.out, if_neg h1]; rfl)
      clear hr hf
      go_wp2_with fail
      go_ret
      exact ⟨by rw [← HN.out]; rfl, HB.out⟩
set_option maxHeartbeats 4000000 in
theorem l03Put_c (ad : Addr) (n c a f : Nat) (ws : List Int) (TA : Option Addr) (tn tc : Nat) (ts R : List Int) (w : World) (h : RdI w (some ad) n ws) (ht : RdI w TA tn ts) (hn : n ≤ 1000) (hnc : n ≤ c) (htn : tn ≤ 1000) (haf : a + f ≤ n) (hR : ws.take a ++ (ts ++ ws.drop (a + f)) = R) :
    Calls Try.prog 71 #[.slice (some ad) n c, .int .i64 a, .int .i64 f, .slice TA tn tc] w fun e' w' => ∃ A c', e' = .returned (.slice A R.length c') ∧ Wr w' w.heap.size w'.heap.size A R.length (R.map i64) ∧ R.length ≤ c' ∧ Below w.heap.size w w' := by
  have hl := h.len; have htl := ht.len
  have HSZ := Lib.hid (show R.length = a + tn + (n - (a + f)) by rw [← hR]; simp; omega)
  have HT := Lib.hid ht; have HRR := Lib.hid hR
  have HL := Lib.hid (RdI.take h (k := a) (by omega))
  have v1 : IntKind.i64.wrap ((a : Int) + (f : Int)) = (a : Int) + (f : Int) := IntWalk.i64_in _ (by omega)
  have v2 : ((a : Int) + (f : Int)).toNat = a + f := by omega
  by_cases hkc : a + f = c
  · have HR := Lib.hid (show RdI w (some ad) 0 (ws.drop (a + f)) by rw [List.drop_eq_nil_of_le (by omega)]; exact RdI.nil)
    have e0 : n - (a + f) = 0 := by omega
    clear h ht hR hl htl
    go_enter Try.func71, Try.ntmps71
    go_wp2_with fail
    refine (l00OwnY_c (some ad) a c (ws.take a) w HL.out (by omega)).mono ?_
    rintro e' w2 ⟨A2, c2, rfl, own2, hb2⟩
    have O2 := Lib.hid own2; have B2 := Lib.hid hb2
    have T2 := Lib.hid (RdI.below HT.out hb2); have R2 := Lib.hid (RdI.below HR.out hb2)
    have hz2 := hb2.size
    clear own2 hb2
    go_wp2_with (first | (at_builtin; refine wp_appA (by rfl) _ _ (by rfl) w.heap.size A2 a c2 _ (by rfl) (by exact O2.out) TA tn tc ts (by rfl) (by exact T2.out) (by omega) hz2 ?_; intro A3 c3 w3 own3 hb3 hk3 hg3 hz3; have O3 := Lib.hid own3; have B3 := Lib.hid (B2.out.trans hb3); have R3 := Lib.hid (RdI.below HR.out (B2.out.trans hb3)); have hz3' := B3.out.size; clear own3 hb3 hk3 hg3) | (at_builtin; refine wp_appA (by rfl) _ _ (by rfl) w.heap.size A3 (a + tn) c3 _ (by rfl) (by exact O3.out) (some ad) (0) (0) (ws.drop (a + f)) (by rfl) (by exact R3.out) (by omega) hz3' ?_; intro A4 c4 w4 own4 hb4 hk4 hg4 hz4))
    rw [← List.map_append, ← List.map_append, List.append_assoc, HRR.out] at own4
    have O4 := Lib.hid own4; have B4 := Lib.hid (B3.out.trans hb4)
    have HN := Lib.hid (show a + tn + (0) = R.length by first | (rw [HSZ.out]; done) | (rw [HSZ.out]; omega))
    clear own4 hb4 hk4 hg4
    go_wp2_with fail
    go_ret
    have h9 := O4.out.wr; have h8 := O4.out.cap
    rw [HN.out] at h9 h8
    exact ⟨A4, c4, by rw [← HN.out]; simp, h9, h8, B4.out⟩
  · have HR := Lib.hid (RdI.drop h haf)
    clear h ht hR hl htl
    go_enter Try.func71, Try.ntmps71
    go_wp2_with fail
    refine (l00OwnY_c (some ad) a c (ws.take a) w HL.out (by omega)).mono ?_
    rintro e' w2 ⟨A2, c2, rfl, own2, hb2⟩
    have O2 := Lib.hid own2; have B2 := Lib.hid hb2
    have T2 := Lib.hid (RdI.below HT.out hb2); have R2 := Lib.hid (RdI.below HR.out hb2)
    have hz2 := hb2.size
    clear own2 hb2
    go_wp2_with (first | (at_builtin; refine wp_appA (by rfl) _ _ (by rfl) w.heap.size A2 a c2 _ (by rfl) (by exact O2.out) TA tn tc ts (by rfl) (by exact T2.out) (by omega) hz2 ?_; intro A3 c3 w3 own3 hb3 hk3 hg3 hz3; have O3 := Lib.hid own3; have B3 := Lib.hid (B2.out.trans hb3); have R3 := Lib.hid (RdI.below HR.out (B2.out.trans hb3)); have hz3' := B3.out.size; clear own3 hb3 hk3 hg3) | (at_builtin; refine wp_appA (by rfl) _ _ (by rfl) w.heap.size A3 (a + tn) c3 _ (by rfl) (by exact O3.out) (some (ad.add (a + f))) (n - (a + f)) (c - (a + f)) (ws.drop (a + f)) (by rfl) (by exact R3.out) (by omega) hz3' ?_; intro A4 c4 w4 own4 hb4 hk4 hg4 hz4))
    rw [← List.map_append, ← List.map_append, List.append_assoc, HRR.out] at own4
    have O4 := Lib.hid own4; have B4 := Lib.hid (B3.out.trans hb4)
    have HN := Lib.hid (show a + tn + (n - (a + f)) = R.length by first | (rw [HSZ.out]; done) | (rw [HSZ.out]; omega))
    clear own4 hb4 hk4 hg4
    go_wp2_with fail
    go_ret
    have h9 := O4.out.wr; have h8 := O4.out.cap
    rw [HN.out] at h9 h8
    exact ⟨A4, c4, by rw [← HN.out]; simp, h9, h8, B4.out⟩

def hdM (t : RwT) : List Value := [.slice t.fA t.fn t.fc, .slice t.tA t.tn t.tc, .bool false]
theorem hdM_len (t : RwT) : (hdM t).length = 3 := rfl
theorem info_Mk : (Try.prog.info? 91).map (fun i => (i.zero, i.size, i.bytes)) = some (some (.agg #[.slice none 0 0, .slice none 0 0, .bool false]), 3, 56) := by kernel_rfl
theorem hdM_one (ts : List RwT) : ∀ u ∈ ts.flatMap hdM, u.oneCell' = true := by
  intro u hu
  obtain ⟨t, _, ht⟩ := List.mem_flatMap.1 hu
  simp only [hdM, List.mem_cons, List.not_mem_nil, or_false] at ht
  rcases ht with rfl | rfl | rfl <;> rfl
/-- a list of Markov rules that is only read -/
structure MkD (w : World) (P : Option Addr) (m : Nat) (ts : List RwT) : Prop where
  head : Rd w P (m * 3) (ts.flatMap hdM)
  fr : ∀ t ∈ ts, RdI w t.fA t.fn t.fx
  tt : ∀ t ∈ ts, RdI w t.tA t.tn t.tx
theorem MkD.below {w w' : World} {P : Option Addr} {m : Nat} {ts : List RwT} (h : MkD w P m ts) (hb : Below w.heap.size w w') : MkD w' P m ts := ⟨h.head.below hb, fun t ht => RdI.below (h.fr t ht) hb, fun t ht => RdI.below (h.tt t ht) hb⟩
theorem MkD.len {w : World} {P : Option Addr} {m : Nat} {ts : List RwT} (h : MkD w P m ts) : ts.length = m := by
  have h1 := h.head.1
  rw [flatX_len hdM 3 hdM_len] at h1; omega
theorem MkD.at_ {w : World} {P : Option Addr} {m k : Nat} {ts : List RwT} (h : MkD w P m ts) (hk : k < m) : ∃ ad t, P = some ad ∧ ts[k]? = some t ∧ w.cell? (ad.add (k * 3)) = some (.slice t.fA t.fn t.fc) ∧ w.cell? ⟨(ad.add (k * 3)).block, (ad.add (k * 3)).off + 1, none⟩ = some (.slice t.tA t.tn t.tc) ∧ w.cell? ⟨(ad.add (k * 3)).block, (ad.add (k * 3)).off + 2, none⟩ = some (.bool false) ∧ RdI w t.fA t.fn t.fx ∧ RdI w t.tA t.tn t.tx := by
  obtain ⟨ad, e, hlt, hc⟩ := h.head.2 (by omega)
  have hl := h.len
  have hx : ts[k]? = some ts[k] := List.getElem?_eq_getElem (by omega)
  have h0 := flatX_at hdM 3 hdM_len ts k 0 _ hx (by omega)
  have h1 := flatX_at hdM 3 hdM_len ts k 1 _ hx (by omega)
  have h2 := flatX_at hdM 3 hdM_len ts k 2 _ hx (by omega)
  exact ⟨ad, ts[k], e, hx, hc _ _ h0, by rw [next_off ad (k * 3) 0]; exact hc _ _ h1, by rw [next_off ad (k * 3) 1]; exact hc _ _ h2, h.fr _ (List.mem_of_getElem? hx), h.tt _ (List.mem_of_getElem? hx)⟩
set_option maxHeartbeats 4000000 in
set_option maxRecDepth 100000 in
theorem l16Markov_c (P : Option Addr) (m pc : Nat) (ts : List RwT) (w : World) (h : RwD w P m ts) (hm : m ≤ 60) :
    Calls Try.prog 32 #[.slice P m pc] w fun e' w' => ∃ P' pc', e' = .returned (.slice P' m pc') ∧ MkD w' P' m ts ∧ Below w.heap.size w w' := by
  have HL := Lib.hid h.len
  have H := Lib.hid h; clear h
  go_enter Try.func32, Try.ntmps32
  go_wp2_with fail
  go_loopw [3, 4] (fun sv iv wr => ∃ (k oc : Nat) (O : Option Addr), k ≤ m ∧ iv = .int .i64 k ∧ sv = .slice O k oc ∧ Hid (Own wr w.heap.size 91 3 O k oc ((ts.take k).flatMap hdM)) ∧ Below w.heap.size w wr) (fun _ iv _ => m - (intOf iv).toNat)
  case atStart => exact ⟨0, 0, _, by omega, rfl, rfl, Own.litK (Nat.le_refl _), below_size.alloc (Nat.le_refl _) _⟩
  case round =>
    obtain ⟨k, oc, O, hk, rfl, rfl, hO, hb⟩ := hrel
    have HB := Lib.hid hb
    have hzr := hb.size
    by_cases hlt : k < m
    · obtain ⟨ad, t, rfl, ht, hc0, hc1, hf, hto⟩ := (H.out.below hb).at_ hlt
      have HT := Lib.hid (show (ts.take k).flatMap hdM ++ hdM t = (ts.take (k + 1)).flatMap hdM by rw [take_at ht, List.flatMap_append]; simp)
      clear hb ht hf hto
      have x0 := Ext.cell hc0; have x1 := Ext.cell hc1
      go_wp2_with fail
      refine Mix.wp_region_mix [0, 0, 0, 0, 0, 3, 0, 0, 0, 0, 3, 0, 1, 2, 0] (fun w' => ∃ x : Ext wr, w' = x.w) (by kernel_rfl) (by kernel_rfl) (InExt.drew _) ?_
      repeat (first | (refine Mix.wpMix_read (by rfl) ?_; go_big_quiet_step (fail); refine wpQuiet_nil ?_) | (refine Mix.wpMix_pure (by rfl) ?_; go_big_quiet_step (fail); refine wpQuiet_nil ?_))
      refine Mix.wpMix_build (by rfl) _ _ rfl (.agg #[.slice t.fA t.fn t.fc, .slice t.tA t.tn t.tc, .bool false]) (fun w => by simp [go_sem]) ?_
      simp only [Act.put, List.setIfInBounds_toArray, List.set_cons_succ, List.set_cons_zero]
      refine Mix.wpMix_chg (by rfl) (fun K hK => ?_)
      go_wp2_with fail
      obtain ⟨w5, hw5⟩ : ∃ w5, (wr.alloc (.cells #[.slice t.fA t.fn t.fc, .slice t.tA t.tn t.tc, .bool false] 91)).drew = w5 := ⟨_, rfl⟩
      rw [hw5]
      have E45 := Lib.hid (show Below wr.heap.size wr w5 by rw [← hw5]; exact below_drew (below_size.alloc (Nat.le_refl _) _))
      have K5 := Lib.hid (show Blk w5 wr.heap.size 91 #[.slice t.fA t.fn t.fc, .slice t.tA t.tn t.tc, .bool false] by rw [← hw5]; exact (Blk.new _ _ _).drew)
      have hz5 := E45.out.size
      clear hw5
      refine hK _ _ ⟨⟨_, E45.out⟩, rfl⟩ ?_
      clear hK K
      refine Mix.wpMix_tail (by rfl) (fun K hK => ?_)
      refine wp_app (by rfl) _ _ 61 91 (.agg #[.slice none 0 0, .slice none 0 0, .bool false]) 3 56 (by rfl) Try.underlying61 info_Mk (by rfl) (by omega) w.heap.size O k oc _ (by rfl) (by exact hO.out.keep E45.out) ⟨wr.heap.size, 0, none⟩ 1 1 (hdM t) (by rfl) (by omega) (by rfl) ?_ (by have := hdM_one [t]; simpa using this) (by omega) (by omega) (by omega) ?_
      · intro j u hj
        rw [head_add, K5.out.cell j, ← hj, hdM]
        exact List.getElem?_toArray
      intro g' cap w6 own6 hb6 hk6 hg6 hz6
      rw [HT.out] at own6
      have O6 := Lib.hid own6; have E6 := Lib.hid ((HB.out.trans (E45.out.mono (by omega))).trans hb6)
      clear own6 hb6 hk6 hg6
      go_wp2_with fail
      refine hK _ _ ?_
      clear hK K
      repeat (first | (refine Mix.wpMix_read (by rfl) ?_; go_big_quiet_step (fail); refine wpQuiet_nil ?_) | (refine Mix.wpMix_pure (by rfl) ?_; go_big_quiet_step (fail); refine wpQuiet_nil ?_))
      (refine Mix.wpMix_nil ?_; try simp only [Exit.then])
      clear x0 x1
      go_wp2_with fail
      go_roundw
      case rel => exact ⟨k + 1, cap, some ⟨g', 0, none⟩, by omega, by go_num, rfl, O6.out, E6.out⟩
      case measure => simp [intOf]; omega
    · obtain rfl : k = m := by omega
      have HO := Lib.hid (show Own wr w.heap.size 91 3 O k oc (ts.flatMap hdM) by have h1 := hO.out; rwa [List.take_of_length_le (by rw [HL.out]; exact Nat.le_refl _)] at h1)
      clear hb
      go_wp2_with fail
      go_ret
      exact ⟨O, oc, rfl, ⟨HO.out.wrK.rd, (H.out.below HB.out).fr, (H.out.below HB.out).tt⟩, HB.out⟩
def ruleK (k : Nat) (rest : Option (Nat × Nat)) : Option Nat → Option (Nat × Nat)
  | none => rest
  | some a => some (k, a)
theorem ruleW_cons (w : List Int) (r : Rw) (l : List Rw) (k : Nat) : ruleW w (r :: l) k = ruleK k (ruleW w l (k + 1)) (findW w r.1 (w.length + 1) 0) := by
  rw [ruleW]
  cases findW w r.1 (w.length + 1) 0 <;> rfl
def ruleV : Option (Nat × Nat) → Int × Int
  | none => (-1, 0)
  | some r => ((r.1 : Int), (r.2 : Int))
set_option maxHeartbeats 2000000 in
theorem l10Rule_c (P : Option Addr) (m pc : Nat) (ts : List RwT) (X : List Rw) (A : Option Addr) (n c : Nat) (ws : List Int) (RV : Option (Nat × Nat)) (w : World) (hL : MkD w P m ts) (hX : ts.map datR = X) (hg : ∀ r ∈ X, 1 ≤ r.1.length ∧ r.1.length ≤ 5) (h : RdI w A n ws) (hn : n ≤ 400) (hnc : n ≤ c) (hm : m ≤ 60) (hRV : ruleW ws X 0 = RV) :
    Calls Try.prog 56 #[.slice P m pc, .slice A n c] w fun e w' => e = .returned (.tuple #[.int .i64 (ruleV RV).1, .int .i64 (ruleV RV).2]) ∧ Below w.heap.size w w' := by
  have HLT := Lib.hid hL.len; have HWL := Lib.hid h.len
  have H := Lib.hid h; have HD := Lib.hid hL; have HX := Lib.hid hX; have HG := Lib.hid hg; have HR := Lib.hid hRV
  clear h hL hX hg hRV
  go_enter Try.func56, Try.ntmps56
  go_wp2_with fail
  go_loopw [6] (fun iv wr => ∃ k : Nat, k ≤ m ∧ iv = .int .i64 k ∧ Hid (ruleW ws (X.drop k) k = RV) ∧ Below w.heap.size w wr) (fun iv _ => m - (intOf iv).toNat)
  case atStart => exact ⟨0, by omega, rfl, HR.out, below_size⟩
  case round =>
    obtain ⟨k, hk, rfl, hr, hb⟩ := hrel
    have HB := Lib.hid hb
    by_cases hlt : k < m
    · obtain ⟨ad, t, rfl, ht, hc0, _, _, hf, _⟩ := (HD.out.below hb).at_ hlt
      have hXk : X[k]? = some (t.fx, t.tx) := by rw [← HX.out, List.getElem?_map, ht]; rfl
      have hgr := HG.out _ (List.mem_of_getElem? hXk)
      simp only at hgr
      have hfl := hf.len
      have hfn : 1 ≤ t.fn ∧ t.fn ≤ 10000 := by omega
      obtain ⟨fv, hfv⟩ : ∃ fv, findW ws t.fx (n + 1) 0 = fv := ⟨_, rfl⟩
      have HS := Lib.hid (show ruleK k (ruleW ws (X.drop (k + 1)) (k + 1)) fv = RV by
        rw [← hr.out, drop_at hXk, ruleW_cons, HWL.out, hfv])
      have HFV := Lib.hid (show findV (findW ws t.fx (n + 1) 0) = findV fv by rw [hfv])
      have HF := Lib.hid hf
      have HW1 := Lib.hid (RdI.below H.out hb)
      clear hr hb ht hXk hgr hf hfl hfv
      go_wp2_with fail
      refine (l03Find_c A n c ws t.fA t.fn t.fc t.fx (findV fv) wr HW1.out HF.out hnc (by omega) hfn HFV.out).mono ?_
      rintro e w2 ⟨rfl, hb2⟩
      have B2 := Lib.hid (below_chain HB.out HB.out.size hb2)
      clear hb2
      cases fv with
      | none =>
        have HN := Lib.hid (show ruleW ws (X.drop (k + 1)) (k + 1) = RV from HS.out)
        rw [show findV none = -1 from rfl]
        clear HS HFV
        go_wp2_with fail
        go_roundw
        case rel => exact ⟨k + 1, by omega, by go_num, HN.out, B2.out⟩
        case measure => simp [intOf]; omega
      | some a =>
        have HN := Lib.hid (show some (k, a) = RV from HS.out)
        rw [show findV (some a) = (a : Int) from rfl]
        clear HS HFV
        go_wp2_with fail
        go_ret2
        rw [← HN.out]
        exact ⟨rfl, B2.out⟩
    · have HN := Lib.hid (show none = RV by rw [← hr.out, List.drop_eq_nil_of_le (by rw [← HX.out, List.length_map, HLT.out]; omega)]; rfl)
      clear hr hb
      go_wp2_with fail
      go_ret2
      rw [← HN.out]
      exact ⟨rfl, HB.out⟩
/-- a step that is there: the word behind it, or that it is too long -/
def StOut (k : Nat) (R : List Int) (w : World) (e' : Ending) (w' : World) : Prop :=
  if R.length ≤ 400 then ∃ A c, e' = .returned (.tuple #[.slice A R.length c, i64 k, i64 0]) ∧ RdI w' A R.length R ∧ R.length ≤ c ∧ Below w.heap.size w w'
  else e' = .returned (.tuple #[.slice none 0 0, i64 0, i64 5]) ∧ Below w.heap.size w w'
set_option maxHeartbeats 4000000 in
set_option maxRecDepth 100000 in
theorem l10Step_c (P : Option Addr) (m pc : Nat) (ts : List RwT) (X : List Rw) (ad : Addr) (n c : Nat) (ws : List Int) (k a : Nat) (r : Rw) (R : List Int) (w : World) (hL : MkD w P m ts) (hX : ts.map datR = X) (hg : ∀ r ∈ X, (1 ≤ r.1.length ∧ r.1.length ≤ 5) ∧ r.2.length ≤ 5) (h : RdI w (some ad) n ws) (hn : n ≤ 400) (hnc : n ≤ c) (hm : m ≤ 60) (hRV : ruleW ws X 0 = some (k, a)) (hr : X[k]? = some r) (hat : a + r.1.length ≤ n) (hR : ws.take a ++ (r.2 ++ ws.drop (a + r.1.length)) = R) :
    Calls Try.prog 57 #[.slice P m pc, .slice (some ad) n c] w (StOut k R w) := by
  have hwl := h.len
  have hkm : k < m := by have := (List.getElem?_eq_some_iff.1 hr).1; have h1 := hL.len; rw [← hX, List.length_map] at this; omega
  have hgr := hg r (List.mem_of_getElem? hr)
  have hRl : R.length = a + r.2.length + (n - (a + r.1.length)) := by rw [← hR]; simp; omega
  have H := Lib.hid h; have HD := Lib.hid hL; have HX := Lib.hid hX; have HG := Lib.hid hg; have HR := Lib.hid hRV
  have HRK := Lib.hid hr; have HRR := Lib.hid hR; have HRL := Lib.hid hRl
  obtain ⟨fl, hfl⟩ : ∃ fl, r.1.length = fl := ⟨_, rfl⟩
  obtain ⟨tl, htl⟩ : ∃ tl, r.2.length = tl := ⟨_, rfl⟩
  rw [hfl] at hat
  have HFL := Lib.hid hfl; have HTL := Lib.hid htl
  have hfb : 1 ≤ fl ∧ fl ≤ 5 := by omega
  have htb : tl ≤ 5 := by omega
  clear h hL hX hg hRV hr hR hRl hgr hwl hfl htl
  go_enter Try.func57, Try.ntmps57
  go_wp2_with fail
  refine (l10Rule_c P m pc ts X (some ad) n c ws (some (k, a)) w HD.out HX.out (fun r hr => (HG.out r hr).1) H.out hn hnc hm HR.out).mono ?_
  rintro e w1 ⟨rfl, hb1⟩
  rw [show (ruleV (some (k, a))).1 = (k : Int) from rfl, show (ruleV (some (k, a))).2 = (a : Int) from rfl]
  have E1 := Lib.hid hb1
  obtain ⟨pd, t, rfl, ht, hc0, hc1, _, hf, hto⟩ := (HD.out.below hb1).at_ hkm
  have hrt : r = (t.fx, t.tx) := by
    have h1 := HRK.out
    rw [← HX.out, List.getElem?_map, ht] at h1
    exact (Option.some.inj h1).symm
  have hfn : t.fn = fl := by rw [← hf.len, ← HFL.out, hrt]
  have htn : t.tn = tl := by rw [← hto.len, ← HTL.out, hrt]
  have HTO := Lib.hid (show RdI w1 t.tA tl r.2 by rw [← htn, hrt]; exact hto)
  have HW1 := Lib.hid (RdI.below H.out hb1)
  have HRR2 := Lib.hid (show ws.take a ++ (r.2 ++ ws.drop (a + fl)) = R by rw [← HFL.out]; exact HRR.out)
  have HRL2 := Lib.hid (show R.length = a + tl + (n - (a + fl)) by rw [← HFL.out, ← HTL.out]; exact HRL.out)
  rw [hfn] at hc0; rw [htn] at hc1
  obtain ⟨fA, _, fc, _, tA, _, tc, _⟩ := t
  simp only at hc0 hc1 HTO
  have v1 : IntKind.i64.wrap ((n : Int) - (fl : Int)) = (n : Int) - (fl : Int) := IntWalk.i64_in _ (by omega)
  have v2 : IntKind.i64.wrap ((n : Int) - (fl : Int) + (tl : Int)) = (n : Int) - (fl : Int) + (tl : Int) := IntWalk.i64_in _ (by omega)
  clear hb1 ht hf hto hrt hfn htn HRK HRR HRL HFL HTL HX HG HR H HD
  by_cases h4 : R.length ≤ 400
  · have g4 : decide ((400 : Int) < (n : Int) - (fl : Int) + (tl : Int)) = false := by rw [decide_eq_false_iff_not]; have := HRL2.out; omega
    have H4 := Lib.hid h4
    clear h4
    go_wp2_with fail
    go_quiet (fail)
    obtain ⟨w2, hw2⟩ : ∃ w2, w1.drewN nq = w2 := ⟨_, rfl⟩
    have E2 := Lib.hid (show Below w.heap.size w w2 by rw [← hw2]; exact below_drewN E1.out nq)
    have HTO2 := Lib.hid (show RdI w2 tA tl r.2 by rw [← hw2]; exact HTO.out)
    have HW2 := Lib.hid (show RdI w2 (some ad) n ws by rw [← hw2]; exact HW1.out)
    have x0 := Ext.cell (show w2.cell? (pd.add (k * 3)) = some (.slice fA fl fc) by rw [← hw2]; exact hc0)
    have x1 := Ext.cell (show w2.cell? ⟨(pd.add (k * 3)).block, (pd.add (k * 3)).off + 1, none⟩ = some (.slice tA tl tc) by rw [← hw2]; exact hc1)
    rw [hw2]
    clear hw2 hc0 hc1 HTO HW1 v1 v2 E1
    go_wp2_with fail
    refine Mix.wp_region_mix [0, 0, 0, 0, 0, 3, 0, 0, 0, 0, 3, 1, 0, 0, 0, 0] (fun w' => ∃ x : Ext w2, w' = x.w) (by kernel_rfl) (by kernel_rfl) (InExt.drew _) ?_
    repeat (first | (refine Mix.wpMix_read (by rfl) ?_; go_big_quiet_step (fail); refine wpQuiet_nil ?_) | (refine Mix.wpMix_pure (by rfl) ?_; go_big_quiet_step (fail); refine wpQuiet_nil ?_))
    refine Mix.wpMix_chg (by rfl) (fun K hK => ?_)
    go_wp2_with fail
    refine (l03Put_c ad n c a fl ws tA tl tc r.2 R _ (by exact HW2.out) (by exact HTO2.out) (by omega) hnc (by omega) hat HRR2.out).mono ?_
    rintro e w3 ⟨A3, c3, rfl, hw3, hcap3, hb3⟩
    have E3 := Lib.hid (show Below w2.heap.size w2 w3 from below_of_drew hb3)
    have W3 := Lib.hid hw3.rdI
    clear hw3 hb3
    go_wp2_with fail
    refine hK _ _ ⟨⟨_, E3.out⟩, rfl⟩ ?_
    clear hK K
    repeat (first | (refine Mix.wpMix_read (by rfl) ?_; go_big_quiet_step (fail); refine wpQuiet_nil ?_) | (refine Mix.wpMix_pure (by rfl) ?_; go_big_quiet_step (fail); refine wpQuiet_nil ?_))
    (refine Mix.wpMix_nil ?_; try simp only [Exit.then])
    clear x0 x1
    go_wp2_with fail
    go_ret3
    rw [StOut, if_pos H4.out]
    exact ⟨A3, c3, rfl, W3.out, hcap3, below_chain E2.out E2.out.size E3.out⟩
  · have g4 : decide ((400 : Int) < (n : Int) - (fl : Int) + (tl : Int)) = true := by rw [decide_eq_true_eq]; have := HRL2.out; omega
    have H4 := Lib.hid h4
    clear h4
    go_wp2_with fail
    go_quiet (fail)
    go_wp2_with fail
    go_ret3
    rw [StOut, if_neg H4.out]
    exact ⟨rfl, below_drewN E1.out nq⟩
set_option maxHeartbeats 8000000 in
set_option maxRecDepth 100000 in
theorem l10Run_c (s e : Int) (P : Option Addr) (m pc : Nat) (ts : List RwT) (X : List Rw) (WA : Option Addr) (n c : Nat) (ws : List Int) (most : Nat) (RV : Option (List Int × Nat × Bool)) (w : World) (hL : MkD w P m ts) (hX : ts.map datR = X) (hg : ∀ r ∈ X, GoodR s e r) (h : RdI w WA n ws) (hw : ∃ j, OneS (stB s e) ws j) (hn : n ≤ 400) (hm : m ≤ 60) (hmost : most ≤ 100000) (hRV : runW (stB s e) X most ws 0 = RV) :
    Calls Try.prog 31 #[.slice P m pc, .slice WA n c, .int .i64 most] w (RnOut RV w) := by
  have H := Lib.hid h; have HD := Lib.hid hL
  have HX := Lib.hid hX; have HG := Lib.hid hg; have HRV := Lib.hid hRV; have HW := Lib.hid hw
  have HG2 := Lib.hid (show ∀ r ∈ X, (1 ≤ r.1.length ∧ r.1.length ≤ 5) ∧ r.2.length ≤ 5 from fun r hr => by
    obtain ⟨i, hi⟩ := (hg r hr).fr
    exact ⟨⟨hi.pos, (hg r hr).sz.1⟩, (hg r hr).sz.2⟩)
  clear h hL hX hg hRV hw
  go_enter Try.func31, Try.ntmps31
  go_wp2_with fail
  refine (l00OwnY_c WA n c ws w H.out (by omega)).mono ?_
  rintro e' w1 ⟨A1, c1, rfl, own1, hb1⟩
  have E1 := Lib.hid hb1
  have H1 := Lib.hid (show RdI w1 A1 n ws from own1.wr.rdI)
  have hc1 := own1.cap
  clear own1 hb1 H
  go_wp2_with fail
  go_loopw [10, 11] (fun xv iv wr => ∃ (k b : Nat) (A : Option Addr) (l c' : Nat) (us : List Int), k + b = most ∧ iv = .int .i64 k ∧ xv = .slice A l c' ∧ l ≤ 400 ∧ l ≤ c' ∧ Hid (RdI wr A l us) ∧ Hid (∃ j, OneS (stB s e) us j) ∧ Hid (runW (stB s e) X b us k = RV) ∧ Below w.heap.size w wr) (fun _ iv _ => most - (intOf iv).toNat)
  case atStart => exact ⟨0, most, A1, n, c1, ws, by omega, rfl, rfl, hn, hc1, H1.out, HW.out, HRV.out, E1.out⟩
  case round =>
    clear H1 E1
    obtain ⟨k, b, A, l, c', us, hkb, rfl, rfl, hl4, hlc, hR, hO, hV, hb⟩ := hrel
    have HB := Lib.hid hb
    obtain ⟨MV, hMV⟩ : ∃ MV, moveR (stB s e) us X 0 = MV := ⟨_, rfl⟩
    have HV := Lib.hid (show runWK (stB s e) X b us k MV = RV by rw [← hV.out, ← hMV, runW_eq])
    have HMV := Lib.hid hMV
    have HRU := Lib.hid (show ruleW us X 0 = MV.map fun x => (x.1, x.2.1) by
      obtain ⟨j, hj⟩ := hO.out
      rw [ruleW_eq hj (fun r hr => (HG.out r hr).fr), hMV])
    have HDr := Lib.hid (HD.out.below hb)
    have HKB := Lib.hid hkb
    have hkm : k ≤ most := by omega
    obtain ⟨j0, hj0⟩ := hO.out
    have hul := hR.out.len
    have hl1 : 1 ≤ l := by have := hj0.pos; omega
    obtain ⟨ad, _, rfl, _, _, _⟩ := RdI.at_ hR.out (k := 0) (by omega)
    clear hV hb hMV hkb hj0 hul
    go_wp2_with fail
    refine (l10Rule_c P m pc ts X (some ad) l c' us _ wr HDr.out HX.out (fun r hr => (HG2.out r hr).1) hR.out hl4 hlc hm HRU.out).mono ?_
    rintro e' w3 ⟨rfl, hb3⟩
    have E3 := Lib.hid (below_chain HB.out HB.out.size hb3)
    have R3 := Lib.hid (RdI.below hR.out hb3)
    have HD3 := Lib.hid (HDr.out.below hb3)
    clear hb3
    rcases MV with _ | ⟨k2, a, R⟩
    · rw [show (ruleV (Option.map (fun x => (x.1, x.2.1)) (none : Option (Nat × Nat × List Int)))).1 = -1 from rfl, show (ruleV (Option.map (fun x => (x.1, x.2.1)) (none : Option (Nat × Nat × List Int)))).2 = 0 from rfl]
      go_wp2_with fail
      refine bodyPost_ret (v := .tuple #[.slice (some ad) l c', .int .i64 k, .bool true, .int .i64 0]) (by simp [results, Try.results31, go_sem]) rfl ?_
      rw [← HV.out]
      exact ⟨some ad, l, c', rfl, R3.out, hlc, hl4, E3.out⟩
    · rw [show (ruleV (Option.map (fun x => (x.1, x.2.1)) (some (k2, a, R)))).1 = (k2 : Int) from rfl, show (ruleV (Option.map (fun x => (x.1, x.2.1)) (some (k2, a, R)))).2 = (a : Int) from rfl]
      by_cases hb0 : b = 0
      · have hk : k = most := by have := HKB.out; omega
        have HV2 := Lib.hid (show some (us, k, false) = RV by rw [← HV.out, runWK, if_pos hb0])
        have g0 : ((k : Int) == (most : Int)) = true := by simp [hk]
        have HK := Lib.hid hk
        clear hk hb0
        go_wp2_with fail
        refine bodyPost_ret (v := .tuple #[.slice (some ad) l c', .int .i64 k, .bool false, .int .i64 0]) (by simp [results, Try.results31, go_sem]) rfl ?_
        rw [← HV2.out]
        exact ⟨some ad, l, c', rfl, R3.out, hlc, hl4, E3.out⟩
      · have g0 : ((k : Int) == (most : Int)) = false := by simp; have := HKB.out; omega
        obtain ⟨r, hr1, hr2, hp, hRR⟩ := moveR_some HMV.out
        rw [Nat.sub_zero] at hr2
        have hat : a + r.1.length ≤ l := by
          have h1 := hp.length_le
          rw [List.length_drop, R3.out.len] at h1
          have h2 := ((HG2.out r (List.mem_of_getElem? hr2)).1).1
          omega
        have hk2m : k2 < m := by have := (List.getElem?_eq_some_iff.1 hr2).1; have h1 := HD3.out.len; rw [← HX.out, List.length_map] at this; omega
        obtain ⟨rl, hrl⟩ : ∃ rl, R.length = rl := ⟨_, rfl⟩
        have HRL := Lib.hid hrl
        have HO3 := Lib.hid (show ∃ j, OneS (stB s e) R j by
          have hgr := HG.out r (List.mem_of_getElem? hr2)
          obtain ⟨j, hj⟩ := hO.out
          obtain ⟨i, hi⟩ := hgr.fr
          obtain ⟨i', hi'⟩ := hgr.to
          rw [hRR]; exact ⟨_, hj.put hi hi' hp⟩)
        have HSTEP := Lib.hid (l10Step_c P m pc ts X ad l c' us k2 a r R w3 HD3.out HX.out HG2.out R3.out hl4 hlc hm HRU.out hr2 hat hRR.symm)
        clear hr1 hr2 hp hRR hat hrl
        go_wp2_with fail
        refine HSTEP.out.mono ?_
        intro e' w4 hst
        clear HSTEP
        by_cases h4 : rl ≤ 400
        · rw [StOut, if_pos (by rw [HRL.out]; exact h4)] at hst
          obtain ⟨A4, c4, rfl, hR4, hc4, hb4⟩ := hst
          rw [HRL.out] at hR4 hc4 ⊢
          have HV2 := Lib.hid (show runW (stB s e) X (b - 1) R (k + 1) = RV by rw [← HV.out, runWK, if_neg hb0, if_pos (by rw [HRL.out]; exact h4)])
          obtain ⟨b', rfl⟩ : ∃ b', b = b' + 1 := ⟨b - 1, by omega⟩
          have E4 := Lib.hid (below_chain E3.out E3.out.size hb4)
          have HR4 := Lib.hid hR4
          obtain ⟨pd, t, rfl, _, _, _, hc2, _, _⟩ := (HD3.out.below hb4).at_ hk2m
          clear hR4 hb4
          go_wp2_with fail
          go_roundw
          case rel => exact ⟨k + 1, b', A4, rl, c4, R, by have := HKB.out; omega, by go_num, rfl, h4, hc4, HR4.out, HO3.out, HV2.out, E4.out⟩
          case measure => have := HKB.out; simp [intOf]; omega
        · rw [StOut, if_neg (by rw [HRL.out]; exact h4)] at hst
          obtain ⟨rfl, hb4⟩ := hst
          have HV2 := Lib.hid (show none = RV by rw [← HV.out, runWK, if_neg hb0, if_neg (by rw [HRL.out]; exact h4)])
          have E4 := Lib.hid (below_chain E3.out E3.out.size hb4)
          clear hb4
          go_wp2_with fail
          refine bodyPost_ret (v := .tuple #[.slice none 0 0, .int .i64 0, .bool false, .int .i64 5]) (by simp [results, Try.results31, go_sem]) rfl ?_
          rw [← HV2.out]
          exact ⟨rfl, E4.out⟩
end Go.Proofs.Ytcbcjhfeidkeaaa
