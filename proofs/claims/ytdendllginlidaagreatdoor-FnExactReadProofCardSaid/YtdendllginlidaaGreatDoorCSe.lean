/-
  Reading, fifth part: the reference's reader of a proof.
-/
import Derived.Test.YtdendllginlidaaGreatDoorCSd
import Derived.BigQuiet
namespace Go.Proofs.YtdendllginlidaaGreatDoor
open Go.RowKit

abbrev PfD := Int × List Int × List (List Int)
/-- a proof of the call's own, and a Bool -/
def PfOut (R : PfD × Bool) (w : World) (e : Ending) (w' : World) : Prop :=
  ∃ (A : Option Addr) (n c : Nat) (B : Option Addr) (m d : Nat) (its : List It), e = .returned (.tuple #[.agg #[.int .i64 R.1.1, .slice A n c, .slice B m d], .bool R.2]) ∧ WrS w' w.heap.size w'.heap.size ([sgI A n R.1.2.1] ++ sgII B m its) ∧ (n ≤ 1000 ∧ m ≤ 1000 ∧ (∀ t ∈ its, t.n ≤ 100000) ∧ sumN its ≤ 100000000 ∧ its.map It.xs = R.1.2.2) ∧ Below w.heap.size w w'
def prfV : Option (Nat × List Int × List (List Int)) → PfD × Bool
  | some x => (((x.1 : Int), x.2), true)
  | none => ((0, [], []), false)
theorem PfOut.bad {w w' : World} (h : Below w.heap.size w w') : PfOut ((0, [], []), false) w (.returned (.tuple #[.agg #[i64 0, .slice none 0 0, .slice none 0 0], .bool false])) w' := by
  refine ⟨none, 0, 0, none, 0, 0, [], rfl, ⟨fun s hs => ?_, ?_⟩, ⟨by omega, by omega, (fun t ht => by cases ht), by simp [sumN], rfl⟩, h⟩
  · simp [sgII, sgI] at hs
    rcases hs with rfl | rfl <;> exact Wr.nil
  · simp [sgII, sgI, apart]
theorem srR_len {s : List UInt8} (h : (spl 58 s).length ≠ 3) : srR s = none := by
  unfold srR
  split
  · rename_i a b c hs; rw [hs] at h; exact absurd rfl h
  · rfl
theorem srR_three {s a b c : List UInt8} (h : spl 58 s = [a, b, c]) : srR s = match nmR b, wdR c with
    | some ns, some ws => if proofB (kdN a) ns ws = true then some (kdN a, ns, ws) else none
    | _, _ => none := by unfold srR; rw [h]; rfl
theorem three_of {α : Type} {l : List α} (h : l.length = 3) : ∃ a b c, l = [a, b, c] := by
  match l, h with
  | [a, b, c], _ => exact ⟨a, b, c, rfl⟩
theorem sum_words : ∀ {its : List It}, (∀ t ∈ its, t.n ≤ 400) → sumN its ≤ 400 * its.length
  | [], _ => by simp [sumN]
  | t :: l, h => by
    have h1 := h t (by simp); have h2 := sum_words fun u hu => h u (List.mem_cons_of_mem _ hu)
    rw [sumN, List.length_cons]; omega
set_option maxHeartbeats 4000000 in
set_option maxRecDepth 100000 in
theorem l25Read_c (s : List UInt8) (R : PfD × Bool) (hR : prfV (srR s) = R) (w : World) (hs : s.length ≤ 1048576) :
    Calls Tryz.prog 37 #[.string (bs s)] w (PfOut R w) := by
  have HR := Lib.hid hR
  obtain ⟨w1, hw1⟩ : ∃ w1, w.alloc (.cells #[i64 0, .slice none 0 0, .slice none 0 0] 42) = w1 := ⟨_, rfl⟩
  have Z1 := Lib.hid (show Blk w1 w.heap.size 42 #[i64 0, .slice none 0 0, .slice none 0 0] by rw [← hw1]; exact Blk.new _ _ _)
  have B1 := Lib.hid (show Below w.heap.size w w1 by rw [← hw1]; exact below_size.alloc (Nat.le_refl _) _)
  have hz1 : w1.heap.size = w.heap.size + 1 := by rw [← hw1]; simp
  obtain ⟨parts, hp⟩ : ∃ p, spl 58 s = p := ⟨_, rfl⟩
  obtain ⟨m, hm⟩ : ∃ m, parts.length = m := ⟨_, rfl⟩
  have HPL := Lib.hid (show ∀ x ∈ parts, x.length ≤ 1048576 from fun x hx => by have := spl_piece 58 s x (by rw [hp]; exact hx); omega)
  have HSP := Lib.hid (show ∀ cv : Int, cv = 58 → Calls Tryz.prog 21 #[.string (bs s), .int .u8 cv] w1 (StrOut parts m w1) from fun cv hcv => by
    have := l01Split_c s 58 cv (by rw [hcv]; rfl) m (by rw [hp, hm]) w1 hs
    rw [hp] at this; exact this)
  have HP := Lib.hid hp; have HM := Lib.hid hm
  have hmb : m ≤ 1048577 := by rw [← hm, ← hp, spl_len]; have := List.count_le_length (a := 58) (l := s); omega
  clear hp hm hR hs
  go_enter Tryz.func37, Tryz.ntmps37
  go_wp2_with fail
  refine (HSP.out _ (by omega)).mono ?_
  rintro e w2 ⟨A, c, rfl, hA, hb2⟩
  have PA := Lib.hid hA; have E2 := Lib.hid hb2
  have B2 := Lib.hid (show Below w.heap.size w w2 from B1.out.trans (hb2.mono (by omega)))
  have Z2 := Lib.hid (Z1.out.keep hb2)
  have hz2 := hb2.size
  clear hA hb2 hw1 HSP
  by_cases h3 : m = 3
  rotate_left
  · have HG := Lib.hid (show (((0, [], []), false) : PfD × Bool) = R by rw [← HR.out, srR_len (by rw [HP.out, HM.out]; exact h3)]; rfl)
    have g3 : ((m : Int) != 3) = true := by simp; omega
    have r0 := Z2.out.cell 0; have r1 := Z2.out.cell 1; have r2 := Z2.out.cell 2
    have f0 := Z2.out.frozen 0; have f1 := Z2.out.frozen 1; have f2 := Z2.out.frozen 2
    simp at r0 r1 r2
    clear h3
    go_wp2_with fail
    refine bodyPost_ret (v := .tuple #[.agg #[i64 0, .slice none 0 0, .slice none 0 0], .bool false]) (by simp [results, Tryz.results37, go_sem, r0, r1, r2]) rfl ?_
    rw [← HG.out]
    exact PfOut.bad (((B2.out.setCell (by exact Nat.le_refl _) _).setCell (by exact Nat.le_refl _) _).setCell (by exact Nat.le_refl _) _)
  subst h3
  obtain ⟨a, b, d, hpd⟩ := three_of HM.out
  subst hpd
  have HSR := Lib.hid (srR_three HP.out)
  obtain ⟨ad, v0, rfl, hblk, hlt, _, hv0, hc0, _⟩ := PA.out.wr.at_ (k := 0) (by omega)
  obtain ⟨_, v1, e1, _, _, _, hv1, hc1, _⟩ := PA.out.wr.at_ (k := 1) (by omega)
  obtain ⟨_, v2, e2, _, _, _, hv2, hc2, _⟩ := PA.out.wr.at_ (k := 2) (by omega)
  injection e1 with e1; subst e1
  injection e2 with e2; subst e2
  simp only [List.map_cons, List.map_nil, List.getElem?_cons_zero, List.getElem?_cons_succ, Option.some.injEq] at hv0 hv1 hv2
  subst hv0 hv1 hv2
  have gadd : ad.add 0 = ad := by simp [Addr.add]
  rw [gadd] at hc0
  have C0 := Lib.hid hc0; have C1 := Lib.hid (show w2.cell? ⟨ad.block, ad.off + 1, none⟩ = some (.string (bs b)) from hc1); have C2 := Lib.hid (show w2.cell? ⟨ad.block, ad.off + 2, none⟩ = some (.string (bs d)) from hc2)
  have HA1 := Lib.hid (HPL.out a (by simp)); have HB1 := Lib.hid (HPL.out b (by simp)); have HD1 := Lib.hid (HPL.out d (by simp))
  have hadb : ad.block < w2.heap.size := hlt
  clear hc0 hc1 hc2 gadd hlt PA HPL HM hmb
  obtain ⟨wx, hwx⟩ : ∃ wx, w2.alloc (.cells #[i64 0, .slice none 0 0, .slice none 0 0] 42) = wx := ⟨_, rfl⟩
  have BX := Lib.hid (show Blk wx w2.heap.size 42 #[i64 0, .slice none 0 0, .slice none 0 0] by rw [← hwx]; exact Blk.new _ _ _)
  have EX := Lib.hid (show Below w2.heap.size w2 wx by rw [← hwx]; exact below_size.alloc (Nat.le_refl _) _)
  have m0 := BX.out.cell 0; have m1 := BX.out.cell 1; have m2 := BX.out.cell 2
  have n0 := BX.out.frozen 0; have n1 := BX.out.frozen 1; have n2 := BX.out.frozen 2
  simp at m0 m1 m2
  obtain ⟨wy, hwy⟩ : ∃ wy, ((wx.setCell ⟨w2.heap.size, 0, none⟩ (i64 0)).setCell ⟨w2.heap.size, 1, none⟩ (.slice none 0 0)).setCell ⟨w2.heap.size, 2, none⟩ (.slice none 0 0) = wy := ⟨_, rfl⟩
  have EY := Lib.hid (show Below w2.heap.size w2 wy by rw [← hwy]; exact ((EX.out.setCell (Nat.le_refl _) _).setCell (Nat.le_refl _) _).setCell (Nat.le_refl _) _)
  have BY := Lib.hid (show Blk wy w2.heap.size 42 #[i64 0, .slice none 0 0, .slice none 0 0] by rw [← hwy]; exact ((BX.out.set_ 0 _).set_ 1 _).set_ 2 _)
  have hzy := EY.out.size
  go_wp2_with fail
  clear m0 m1 m2 n0 n1 n2 hwy hwx BX EX
  refine (l25Names_c _).mono ?_
  rintro e w5 ⟨rfl, hb5, hlt5, hN5⟩
  have E5 := Lib.hid (EY.out.trans (hb5.mono hzy)); have N5 := Lib.hid hN5; have B5 := Lib.hid (BY.out.keep hb5)
  have hy2 := BY.out.lt
  clear hb5 hN5
  go_wp2_with fail
  go_loopw [7] (fun iv wr => ∃ k : Nat, 1 ≤ k ∧ k ≤ 9 ∧ iv = .int .i64 k ∧ Hid (Blk wr w2.heap.size 42 #[i64 ((kdU a (k - 1) : Nat) : Int), .slice none 0 0, .slice none 0 0]) ∧ KeepR w2.heap.size (w2.heap.size + 1) w5 wr) (fun iv _ => 9 - (intOf iv).toNat)
  case atStart => exact ⟨1, by omega, by omega, rfl, B5.out, KeepR.refl _ _ _⟩
  case round =>
    obtain ⟨k, hk1, hk9, rfl, hB, hK⟩ := hrel
    have HK := Lib.hid hK
    have c0 : wr.cell? ad = some (.string (bs a)) := hK.cell (.inl hadb) (keepc E5.out C0.out)
    have ga := bs_toListS a
    by_cases hlt : k < 9
    · have cn : wr.cell? ⟨wy.heap.size, k, none⟩ = some (.string (bs (nameL k))) := hK.cell (.inr (by show w2.heap.size + 1 ≤ wy.heap.size; omega)) (by rw [N5.out.cell k]; exact namesA_at hk1 (by omega))
      obtain ⟨nm, hnm⟩ : ∃ nm, nameL k = nm := ⟨_, rfl⟩
      rw [hnm] at cn
      have gn := bs_toListS nm
      by_cases he : nm = a
      · have g1 : (nm == a) = true := by simp [he]
        have HU := Lib.hid (show kdU a (k + 1 - 1) = k by rw [show k + 1 - 1 = (k - 1) + 1 by omega, kdU, if_pos (by rw [show k - 1 + 1 = k by omega, hnm]; exact he)]; omega)
        have p0 := hB.out.cell 0; have q0 := hB.out.frozen 0
        simp at p0
        clear he hnm hK
        go_wp2_with fail
        go_quiet (fail)
        go_wp2_with fail
        go_roundw
        case rel => exact ⟨k + 1, by omega, by omega, by go_num, by unfold Hid; rw [HU.out]; exact (hB.out.drewN _).set_ 0 (i64 k), HK.out.trans (show KeepR w2.heap.size (w2.heap.size + 1) wr ((wr.drewN nq).setCell ⟨w2.heap.size, 0, none⟩ (.int .i64 k)) from (KeepR.of_below (below_drewN below_size nq)).setCell (by show w2.heap.size ≤ w2.heap.size; omega) (by show w2.heap.size < w2.heap.size + 1; omega) _)⟩
        case measure => simp [intOf]; omega
      · have g1 : (nm == a) = false := by rw [beq_eq_false_iff_ne]; exact he
        have HU := Lib.hid (show kdU a (k + 1 - 1) = kdU a (k - 1) by rw [show k + 1 - 1 = (k - 1) + 1 by omega, kdU, if_neg (by rw [show k - 1 + 1 = k by omega, hnm]; exact he)])
        clear he hnm hK
        go_wp2_with fail
        go_quiet (fail)
        go_wp2_with fail
        go_roundw
        case rel => exact ⟨k + 1, by omega, by omega, by go_num, by unfold Hid; rw [HU.out]; exact hB.out.drewN _, HK.out.trans (KeepR.of_below (below_drewN below_size _))⟩
        case measure => simp [intOf]; omega
    · obtain rfl : k = 9 := by omega
      have hzr := hK.size
      have EW := Lib.hid (show Below w2.heap.size w2 wr from E5.out.trans (hK.below (Nat.le_refl _) (by omega)))
      have c1 : wr.cell? ⟨ad.block, ad.off + 1, none⟩ = some (.string (bs b)) := hK.cell (.inl hadb) (keepc E5.out C1.out)
      have c2 : wr.cell? ⟨ad.block, ad.off + 2, none⟩ = some (.string (bs d)) := hK.cell (.inl hadb) (keepc E5.out C2.out)
      obtain ⟨kd, hkd⟩ : ∃ kd : Int, ((kdU a (9 - 1) : Nat) : Int) = kd := ⟨_, rfl⟩
      have BP := Lib.hid (show Blk wr w2.heap.size 42 #[i64 kd, .slice none 0 0, .slice none 0 0] by rw [← hkd]; exact hB.out)
      have HKD := Lib.hid (show ((kdN a : Nat) : Int) = kd from hkd)
      obtain ⟨⟨ns, q1⟩, h1⟩ : ∃ r, numsV (nmR b) = r := ⟨_, rfl⟩
      obtain ⟨⟨ws, q2⟩, h2⟩ : ∃ r, wdsV (wdR d) = r := ⟨_, rfl⟩
      have HC1 := Lib.hid (l25Numbers_c b _ h1 wr HB1.out)
      have HN1 := Lib.hid h1; have HN2 := Lib.hid h2
      have Z3 := Lib.hid (Z2.out.of_block (EW.out.block _ Z2.out.lt))
      have hww : w.heap.size < w2.heap.size := Z2.out.lt
      have hew := EW.out.size; have hgr := BP.out.lt
      clear hB hkd h1 h2 hlt hK c0 ga N5 B5 hlt5
      go_wp2_with (go_at_call 63; refine HC1.out.mono ?_; rintro e w6 ⟨A1, n1, c1', rfl, ho6, hb6⟩; have O6 := Lib.hid ho6; have E6 := Lib.hid hb6; have c2 := keepc hb6 c2; have z6 := hb6.size; clear ho6 hb6)
      refine (l25Words_c d _ HN2.out w6 HD1.out).mono ?_
      rintro e w7 ⟨A7, n7, c7, its, rfl, ho7, hit, hb7⟩
      have O7 := Lib.hid ho7; have E7 := Lib.hid hb7; have z7 := hb7.size; have HIT := Lib.hid hit
      have BP7 := Lib.hid ((BP.out.keep E6.out).keep hb7); have Z7 := Lib.hid ((Z3.out.keep E6.out).keep hb7)
      have P7 := Lib.hid (O6.out.keep hb7)
      clear ho7 hb7 hit c2 Z3 BP
      obtain ⟨w9, hw9⟩ : ∃ w9, (w7.setCell ⟨w2.heap.size, 1, none⟩ (.slice A1 n1 c1')).setCell ⟨w2.heap.size, 2, none⟩ (.slice A7 n7 c7) = w9 := ⟨_, rfl⟩
      have hh9 : ∀ bb, bb ≠ w2.heap.size → w9.heap[bb]? = w7.heap[bb]? := fun bb hbb => by
        rw [← hw9]; exact (Below.heap_setCell _ _ _ _ hbb).trans (Below.heap_setCell _ _ _ _ hbb)
      have hz9 : w9.heap.size = w7.heap.size := by rw [← hw9]; simp
      have BP9 := Lib.hid (show Blk w9 w2.heap.size 42 #[i64 kd, .slice A1 n1 c1', .slice A7 n7 c7] by rw [← hw9]; exact (BP7.out.set_ 1 _).set_ 2 _)
      have Z9 := Lib.hid (Z7.out.of_block (hh9 _ (by omega)))
      have O9 := Lib.hid (P7.out.move (w' := w9) fun a' ha' => hh9 _ (by have := (P7.out.block ha').1; omega))
      have Q9 := Lib.hid (O7.out.move (w' := w9) (fun bb hb1 hb2 => hh9 bb (by omega)) (by omega))
      have B9 := Lib.hid (show Below w.heap.size w w9 from B2.out.trans ((EW.out.trans ((E6.out.trans (E7.out.mono z6)).mono (by omega))).mono (by omega) |>.trans (show Below w.heap.size w7 w9 from by rw [← hw9]; exact ((Below.refl w.heap.size w7).setCell (by show w.heap.size ≤ w2.heap.size; omega) _).setCell (by show w.heap.size ≤ w2.heap.size; omega) _)))
      have p0 := BP7.out.cell 0; have p1 := BP7.out.cell 1; have p2 := BP7.out.cell 2
      have q0 := BP7.out.frozen 0; have q1' := BP7.out.frozen 1; have q2' := BP7.out.frozen 2
      simp at p0 p1 p2
      have r0 := Z9.out.cell 0; have r1 := Z9.out.cell 1; have r2 := Z9.out.cell 2
      have f0 := Z9.out.frozen 0; have f1 := Z9.out.frozen 1; have f2 := Z9.out.frozen 2
      simp at r0 r1 r2
      clear hh9
      cases q1
      · have HG := Lib.hid (show (((0, [], []), false) : PfD × Bool) = R by
          have h1 : nmR b = none := by
            cases h : nmR b with
            | none => rfl
            | some x => have := HN1.out; rw [h] at this; injection this with _ this; cases this
          rw [← HR.out, HSR.out, h1]; rfl)
        go_wp2_with fail
        refine bodyPost_ret (v := .tuple #[.agg #[i64 0, .slice none 0 0, .slice none 0 0], .bool false]) (by simp [results, Tryz.results37, go_sem, r0, r1, r2]) rfl ?_
        rw [← HG.out]
        exact PfOut.bad (((B9.out.setCell (by exact Nat.le_refl _) _).setCell (by exact Nat.le_refl _) _).setCell (by exact Nat.le_refl _) _)
      have hnm : nmR b = some ns := by
        cases h : nmR b with
        | none => have := HN1.out; rw [h] at this; injection this with _ this; cases this
        | some x => have := HN1.out; rw [h] at this; injection this with this _; rw [this]
      cases q2
      · have HG := Lib.hid (show (((0, [], []), false) : PfD × Bool) = R by
          have h1 : wdR d = none := by
            cases h : wdR d with
            | none => rfl
            | some x => have := HN2.out; rw [h] at this; injection this with _ this; cases this
          rw [← HR.out, HSR.out, hnm, h1]; rfl)
        clear hnm
        go_wp2_with fail
        refine bodyPost_ret (v := .tuple #[.agg #[i64 0, .slice none 0 0, .slice none 0 0], .bool false]) (by simp [results, Tryz.results37, go_sem, r0, r1, r2]) rfl ?_
        rw [← HG.out]
        exact PfOut.bad (((B9.out.setCell (by exact Nat.le_refl _) _).setCell (by exact Nat.le_refl _) _).setCell (by exact Nat.le_refl _) _)
      have hwd : wdR d = some ws := by
        cases h : wdR d with
        | none => have := HN2.out; rw [h] at this; injection this with _ this; cases this
        | some x => have := HN2.out; rw [h] at this; injection this with this _; rw [this]
      have HSS := Lib.hid (show srR s = if proofB kd ns ws = true then some (kdN a, ns, ws) else none by rw [HSR.out, hnm, hwd]; simp only; rw [HKD.out])
      have hn1 : n1 ≤ 1048577 := by
        have h1 := O9.out.1
        rw [List.length_map] at h1
        have h2 : ns.length ≤ 1048577 := by
          unfold nmR at hnm
          split at hnm
          · injection hnm with hnm; rw [← hnm]; simp
          · split at hnm
            · cases hnm
            · have := allD_len hnm; omega
        omega
      have hitl : its.length = n7 := by have := Q9.out.own.1; rw [List.length_map] at this; omega
      have hwl : ws.length ≤ 300 ∧ ∀ x ∈ ws, x.length ≤ 400 := by
        unfold wdR at hwd
        split at hwd
        · injection hwd with hwd; rw [← hwd]; exact ⟨by simp, fun x hx => by cases hx⟩
        · split at hwd
          · cases hwd
          · obtain ⟨g1, g2⟩ := allW_texts hwd
            have h1 := congrArg List.length g1
            rw [List.length_map] at h1
            refine ⟨by omega, fun x hx => ?_⟩
            rw [← g2] at hx
            obtain ⟨y, _, rfl⟩ := List.mem_map.1 hx
            cases h : wdR1 y with
            | none => simp
            | some z => exact (wd_some h).2.2
      have hwl2 : its.length = ws.length := by have := congrArg List.length HIT.out; rw [List.length_map] at this; exact this
      have RS := Lib.hid (show RdS w9 (sgII A7 n7 its) from by have := Q9.out.wrS.rd; rw [Nat.mul_one] at this; exact this)
      have htn : ∀ t ∈ its, t.n ≤ 400 := fun t ht => by
        have h1 := RdII.size RS.out ht
        have h2 := hwl.2 t.xs (by rw [show ws = its.map It.xs from HIT.out.symm]; exact List.mem_map_of_mem ht)
        omega
      have HTN := Lib.hid htn
      have hn7 : n7 ≤ 300 := by have := hwl.1; omega
      have PP := Lib.hid (show ProofP w9 w2.heap.size kd A1 n1 c1' ns A7 n7 c7 its from ⟨BP9.out.cell 0, BP9.out.cell 1, BP9.out.cell 2, O9.out.wr.rdI, RS.out⟩)
      obtain ⟨q3, h3⟩ : ∃ q, proofB kd ns ws = q := ⟨_, rfl⟩
      have HQ3 := Lib.hid h3
      clear hnm hwd hwl h3 hwl2 htn
      cases q3
      · have HG := Lib.hid (show (((0, [], []), false) : PfD × Bool) = R by rw [← HR.out, HSS.out, HQ3.out]; rfl)
        go_wp2_with (go_at_call 65; refine (l25Is_c w2.heap.size kd A1 n1 c1' ns A7 n7 c7 its false w9 PP.out (by omega) (by omega) (fun t ht => by have := HTN.out t ht; omega) (by rw [show its.map It.xs = ws from HIT.out]; exact HQ3.out)).mono ?_; rintro e w' ⟨rfl, rfl⟩)
        refine bodyPost_ret (v := .tuple #[.agg #[i64 0, .slice none 0 0, .slice none 0 0], .bool false]) (by simp [results, Tryz.results37, go_sem, r0, r1, r2]) rfl ?_
        rw [← HG.out]
        exact PfOut.bad (((B9.out.setCell (by exact Nat.le_refl _) _).setCell (by exact Nat.le_refl _) _).setCell (by exact Nat.le_refl _) _)
      · obtain ⟨g1, g2, g3, g4, g5⟩ := proofB_all HQ3.out
        have HG := Lib.hid (show ((kd, ns, ws), true) = R by rw [← HR.out, HSS.out, HQ3.out, if_pos rfl, ← HKD.out]; rfl)
        have hnl : n1 ≤ 300 := by have h1 := O9.out.1; rw [List.length_map] at h1; have h2 : ns.length ≤ 300 := g2; have h3 : (ns, true).1.length = ns.length := rfl; omega
        have p0' := BP9.out.cell 0; have p1' := BP9.out.cell 1; have p2' := BP9.out.cell 2
        simp at p0' p1' p2'
        have hl2 := RdII.len RS.out
        have hsum := sum_words HTN.out
        clear g1 g2 g3 g4 g5
        go_wp2_with (go_at_call 65; refine (l25Is_c w2.heap.size kd A1 n1 c1' ns A7 n7 c7 its true w9 PP.out (by omega) (by omega) (fun t ht => by have := HTN.out t ht; omega) (by rw [show its.map It.xs = ws from HIT.out]; exact HQ3.out)).mono ?_; rintro e w' ⟨rfl, rfl⟩)
        refine bodyPost_ret (v := .tuple #[.agg #[i64 kd, .slice A1 n1 c1', .slice A7 n7 c7], .bool true]) (by simp [results, Tryz.results37, go_sem, r0, r1, r2]) rfl ?_
        rw [← HG.out]
        refine ⟨A1, n1, c1', A7, n7, c7, its, rfl, ?_, ⟨by omega, by omega, fun t ht => by have := HTN.out t ht; omega, by omega, HIT.out⟩, ((B9.out.setCell (by exact Nat.le_refl _) _).setCell (by exact Nat.le_refl _) _).setCell (by exact Nat.le_refl _) _⟩
        have hS : WrS w9 wr.heap.size w9.heap.size ([sgI A1 n1 ns] ++ sgII A7 n7 its) := by
          have h1 : Wr w9 wr.heap.size w6.heap.size A1 n1 (ns.map i64) := by
            have h9 := O6.out.wr
            refine ⟨h9.1, fun hn => ?_⟩
            obtain ⟨a', e', l1, l2, l3, l4⟩ := h9.2 hn
            obtain ⟨a'', e'', l1', l2', l3', l4'⟩ := O9.out.wr.2 hn
            rw [e'] at e''; injection e'' with e''; subst e''
            exact ⟨a', e', l1, l2, l3', l4'⟩
          have h2 := Q9.out.wrS
          rw [Nat.mul_one] at h2
          exact WrS.append (mid := w6.heap.size) (WrS.one h1) (h2.wider (Nat.le_refl _) (Nat.le_refl _)) (by omega) (by omega)
        have h9 := (((hS.set_far (p := ⟨w.heap.size, 0, none⟩) (.inl (by show w.heap.size < wr.heap.size; omega)) (i64 kd)).set_far (p := ⟨w.heap.size, 1, none⟩) (.inl (by show w.heap.size < wr.heap.size; omega)) (.slice A1 n1 c1')).set_far (p := ⟨w.heap.size, 2, none⟩) (.inl (by show w.heap.size < wr.heap.size; omega)) (.slice A7 n7 c7)).wider (lo' := w.heap.size) (by omega) (show w9.heap.size ≤ _ from Nat.le_refl _)
        simpa using h9
end Go.Proofs.YtdendllginlidaaGreatDoor
