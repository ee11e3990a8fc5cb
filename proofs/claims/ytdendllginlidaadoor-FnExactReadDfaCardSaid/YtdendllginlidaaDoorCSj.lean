/-
  Reading automata: the program's reader.
-/
import Derived.Test.YtdendllginlidaaDoorCSc
import Derived.Test.YtdendllginlidaaDoorPRa
import Derived.Test.YtdendllginlidaaDoorCTi
namespace Go.Proofs.YtdendllginlidaaDoor
open Go.RowKit

abbrev DaD := Int × List Int
/-- an automaton of the call's own, and a Bool -/
def DaOut (R : DaD × Bool) (w : World) (e : Ending) (w' : World) : Prop := ∃ A n c, e = .returned (.tuple #[.agg #[.int .i64 R.1.1, .slice A n c], .bool R.2]) ∧ Wr w' w.heap.size w'.heap.size A n (R.1.2.map i64) ∧ n ≤ 1000000 ∧ Below w.heap.size w w'
def dfV : Option DaD → DaD × Bool
  | some x => (x, true)
  | none => ((0, []), false)
theorem DaOut.bad {w w' : World} (h : Below w.heap.size w w') : DaOut ((0, []), false) w (.returned (.tuple #[.agg #[i64 0, .slice none 0 0], .bool false])) w' := ⟨none, 0, 0, rfl, Wr.nil, by omega, h⟩
theorem numsV_noD {o : Option (List Int)} {xs : List Int} (h : numsV o = (xs, false)) : o = none := by
  cases o with
  | none => rfl
  | some y => injection h with _ h; cases h
theorem numsV_yesD {o : Option (List Int)} {xs : List Int} (h : numsV o = (xs, true)) : o = some xs := by
  cases o with
  | none => injection h with _ h; cases h
  | some y => injection h with h _; rw [h]
theorem id_no {s : List UInt8} {sym : Int} (h : allD (spl 44 (repF s)) = none) : idR s sym = none := by unfold idR; rw [h]
theorem id_yes {s : List UInt8} {sym : Int} {xs : List Int} (h : allD (spl 44 (repF s)) = some xs) : idR s sym = if inB sym 2 6 = true ∧ dfaB ((xs.length : Int) / sym) sym xs = true ∧ daR ((xs.length : Int) / sym) sym xs = s then some ((xs.length : Int) / sym, xs) else none := by unfold idR; rw [h]
theorem repF_len (s : List UInt8) : (repF s).length = s.length := by rw [repF, List.length_map]
theorem ReplaceAll_c (s : List UInt8) (w : World) (hL : LibS w) (hs : s.length ≤ 1048576) :
    Calls Tryd.prog 14 #[.string (bs s), .string ⟨#[59]⟩, .string ⟨#[44]⟩] w fun e w' => e = .returned (.string (bs (repF s))) ∧ Below w.heap.size w w' := by
  obtain ⟨mx, hmx⟩ := hL.mx
  refine (Tryd.strings_ReplaceAll (bs s) ⟨#[59]⟩ ⟨#[44]⟩ mx w (by rw [bs_size]; omega) hmx (Nat.le_refl 1) ?_).mono ?_
  · have h1 := countB1 59 (bs s)
    rw [bs_dataS, spl_len] at h1
    have h2 := List.count_le_length (a := 59) (l := s)
    rw [bs_size]
    show s.length + Lib.countB (bs s) ⟨#[59]⟩ * 1 ≤ _
    omega
  · rintro e w' ⟨rfl, hb⟩
    rw [bs_dataS]
    show Ending.returned (.string ⟨(Lib.replaceAll s [59] [44]).toArray⟩) = _ ∧ _
    rw [replaceAll1 (by decide)]
    exact ⟨rfl, hb⟩
set_option maxHeartbeats 4000000 in
set_option maxRecDepth 100000 in
theorem iReadDfa_t (s : List UInt8) (sym : Int) (R : DaD × Bool) (hR : dfV (sdR s sym) = R) (w : World) (hs : s.length ≤ 1048576) (hL : LibS w) :
    Calls Tryd.prog 5 #[.string (bs s), .int .i64 sym] w (DaOut R w) := by
  have gss := bs_toListS s
  rw [← id_eq] at hR
  have HR := Lib.hid hR; have HLS := Lib.hid hL
  obtain ⟨⟨xs, q1⟩, h1⟩ : ∃ r, numsV (allD (spl 44 (repF s))) = r := ⟨_, rfl⟩
  have HX := Lib.hid h1
  have hxl : xs.length ≤ 1048577 := by
    cases h : allD (spl 44 (repF s)) with
    | none => rw [h] at h1; injection h1 with h1 _; rw [← h1]; simp
    | some x =>
      rw [h] at h1; injection h1 with h1 _; rw [← h1]
      have h2 := allD_len h
      have h3 := spl_len 44 (repF s)
      have h4 := List.count_le_length (a := 44) (l := repF s)
      rw [repF_len] at h4
      omega
  obtain ⟨w1, hw1⟩ : ∃ w1, w.alloc (.cells #[i64 0, .slice none 0 0] 24) = w1 := ⟨_, rfl⟩
  have Z1 := Lib.hid (show Blk w1 w.heap.size 24 #[i64 0, .slice none 0 0] by rw [← hw1]; exact Blk.new _ _ _)
  have B1 := Lib.hid (show Below w.heap.size w w1 by rw [← hw1]; exact below_size.alloc (Nat.le_refl _) _)
  have hz1 : w1.heap.size = w.heap.size + 1 := by rw [← hw1]; simp
  clear hR hL h1
  go_enter Tryd.func5, Tryd.ntmps5
  go_wp2_with fail
  refine (ReplaceAll_c s w1 (HLS.out.below B1.out) hs).mono ?_
  rintro e w2 ⟨rfl, hb2⟩
  have B2 := Lib.hid (B1.out.trans (hb2.mono B1.out.size)); have Z2 := Lib.hid (Z1.out.keep hb2); have hz2 := hb2.size
  clear hb2 hw1
  go_wp2_with fail
  refine (readDecimals_c (repF s) _ HX.out w2 (HLS.out.below B2.out) (by rw [repF_len]; exact hs)).mono ?_
  rintro e w3 ⟨A, n, c, rfl, ho3, hb3⟩
  have O3 := Lib.hid (show Own w3 w2.heap.size 2 1 A n c (xs.map i64) from ho3)
  have hnl : xs.length = n := by have h1 := O3.out.1; rw [List.length_map] at h1; omega
  have B3 := Lib.hid (B2.out.trans (hb3.mono B2.out.size)); have Z3 := Lib.hid (Z2.out.keep hb3); have hz3 := hb3.size
  have r0 := Z3.out.cell 0; have r1 := Z3.out.cell 1
  have f0 := Z3.out.frozen 0; have f1 := Z3.out.frozen 1
  simp at r0 r1
  clear ho3 hb3
  cases q1
  · have HG := Lib.hid (show (((0, []), false) : DaD × Bool) = R by rw [← HR.out, id_no (numsV_noD HX.out)]; rfl)
    go_wp2_with fail
    refine bodyPost_ret (v := .tuple #[.agg #[i64 0, .slice none 0 0], .bool false]) (by simp [results, Tryd.results5, go_sem, r0, r1]) rfl ?_
    rw [← HG.out]
    exact DaOut.bad ((B3.out.setCell (by exact Nat.le_refl _) _).setCell (by exact Nat.le_refl _) _)
  have HY := Lib.hid (id_yes (sym := sym) (numsV_yesD HX.out))
  cases hq : inB sym 2 6
  · have HG := Lib.hid (show (((0, []), false) : DaD × Bool) = R by rw [← HR.out, HY.out, if_neg (fun h => by rw [hq] at h; cases h.1)]; rfl)
    go_wp2_with (go_at_call 15; refine (symbolsOk_b sym false hq _).mono ?_; rintro e w' ⟨rfl, rfl⟩)
    refine bodyPost_ret (v := .tuple #[.agg #[i64 0, .slice none 0 0], .bool false]) (by simp [results, Tryd.results5, go_sem, r0, r1]) rfl ?_
    rw [← HG.out]
    exact DaOut.bad ((B3.out.setCell (by exact Nat.le_refl _) _).setCell (by exact Nat.le_refl _) _)
  have hsy := inB_t hq
  obtain ⟨st, hst⟩ : ∃ st : Int, (n : Int) / sym = st := ⟨_, rfl⟩
  have d1 : (n : Int).tdiv sym = st := by rw [Int.tdiv_eq_ediv_of_nonneg (by omega)]; exact hst
  have hstb : 0 ≤ st ∧ st ≤ 1048577 := by
    rw [← hst]
    exact ⟨Int.ediv_nonneg (by omega) (by omega), Int.le_trans (Int.ediv_le_self _ (by omega)) (by omega)⟩
  have d2 : IntKind.i64.wrap st = st := IntWalk.i64_in _ (by omega)
  have d0 : (sym == 0) = false := by rw [beq_eq_false_iff_ne]; omega
  have HY2 := Lib.hid (show idR s sym = if dfaB st sym xs = true ∧ daR st sym xs = s then some (st, xs) else none by
    rw [HY.out, hq, hnl, hst]; simp)
  obtain ⟨w4, hw4⟩ : ∃ w4, w3.alloc (.cells #[i64 0, .slice none 0 0] 24) = w4 := ⟨_, rfl⟩
  have b34 : Below w3.heap.size w3 w4 := by rw [← hw4]; exact below_size.alloc (Nat.le_refl _) _
  have BX := Lib.hid (show Blk w4 w3.heap.size 24 #[i64 0, .slice none 0 0] by rw [← hw4]; exact Blk.new _ _ _)
  have p0 := BX.out.cell 0; have p1 := BX.out.cell 1
  have k0 := BX.out.frozen 0; have k1 := BX.out.frozen 1
  simp at p0 p1
  obtain ⟨wy, hwy⟩ : ∃ wy, (w4.setCell ⟨w3.heap.size, 0, none⟩ (i64 st)).setCell ⟨w3.heap.size, 1, none⟩ (.slice A n c) = wy := ⟨_, rfl⟩
  have b3y : Below w3.heap.size w3 wy := by rw [← hwy]; exact (b34.setCell (Nat.le_refl _) _).setCell (Nat.le_refl _) _
  have BY := Lib.hid (show Blk wy w3.heap.size 24 #[i64 st, .slice A n c] by rw [← hwy]; exact (BX.out.set_ 0 _).set_ 1 _)
  have OY := Lib.hid (O3.out.keep b3y); have ZY := Lib.hid (Z3.out.keep b3y); have BB := Lib.hid (B3.out.trans (b3y.mono B3.out.size))
  have hzy := b3y.size; have hzW := BB.out.size
  have x0 := BY.out.cell 0; have x1 := BY.out.cell 1
  have y0 := BY.out.frozen 0; have y1 := BY.out.frozen 1
  simp at x0 x1
  clear b34 b3y
  obtain ⟨qd, hqd⟩ : ∃ q, dfaB st sym xs = q := ⟨_, rfl⟩
  have HQD := Lib.hid hqd
  have HVD := Lib.hid (iValidDfa_c st sym A n c xs wy OY.out.wr.rdI (by omega))
  rw [HQD.out] at HVD
  clear hqd
  cases qd
  · have HG := Lib.hid (show (((0, []), false) : DaD × Bool) = R by rw [← HR.out, HY2.out, if_neg (fun h => by rw [HQD.out] at h; cases h.1)]; rfl)
    go_wp2_with (first | (go_at_call 15; refine (symbolsOk_b sym true hq _).mono ?_; rintro e w' ⟨rfl, rfl⟩) | (go_at_call 16; refine (sizeI_c _ _ _ _ (by omega)).mono ?_; rintro e w' ⟨rfl, rfl⟩) | (go_at_call 17; refine HVD.out.mono ?_; rintro e wz ⟨rfl, hbz⟩; have ZZ := ZY.out.keep hbz; have BZ := Lib.hid (BB.out.trans (hbz.mono hzW)); have r0 := ZZ.cell 0; have r1 := ZZ.cell 1; have f0 := ZZ.frozen 0; have f1 := ZZ.frozen 1; simp at r0 r1; clear hbz ZZ))
    refine bodyPost_ret (v := .tuple #[.agg #[i64 0, .slice none 0 0], .bool false]) (by simp [results, Tryd.results5, go_sem, r0, r1]) rfl ?_
    rw [← HG.out]
    exact DaOut.bad ((BZ.out.setCell (by exact Nat.le_refl _) _).setCell (by exact Nat.le_refl _) _)
  obtain ⟨_, pp2, pp3, _, _⟩ := dfaB_parts HQD.out
  have hn0 : 0 < n := by
    have := mul_bd hsy pp2
    omega
  have hn120 : n ≤ 120 := by
    have := mul_bd hsy pp2
    omega
  obtain ⟨ad, _, rfl, _⟩ := OY.out.wr.at_ (k := 0) hn0
  obtain ⟨ho1, ho2, ho3, _⟩ := OY.out.block rfl
  obtain ⟨g, rfl⟩ : ∃ g, ad = ⟨g, 0, none⟩ := ⟨_, ho3⟩
  have hcap := OY.out.cap
  obtain ⟨txt, htx⟩ : ∃ t, daR st sym xs = t := ⟨_, rfl⟩
  have HTX := Lib.hid htx; have gtx := bs_toListS txt
  have HDT := Lib.hid (show ∀ w', Below wy.heap.size wy w' → Calls Tryd.prog 18 #[.agg #[.int .i64 st, .slice (some ⟨g, 0, none⟩) n c], .int .i64 sym] w' fun e w'' => e = .returned (.string (bs txt)) ∧ Below w'.heap.size w' w'' from fun w' hb => by
    rw [← HTX.out]
    exact iDfaText_c st sym g n c xs w' (OY.out.wr.rdI.below hb) (by omega) hcap (HLS.out.below (BB.out.trans (hb.mono hzW))).tab)
  clear htx pp2 pp3 ho1 ho2 ho3
  by_cases htt : txt = s
  · have g9 : (txt == s) = true := by rw [beq_iff_eq]; exact htt
    have HG := Lib.hid (show ((st, xs), true) = R by rw [← HR.out, HY2.out, if_pos ⟨HQD.out, HTX.out.trans htt⟩]; rfl)
    clear htt
    go_wp2_with (first | (go_at_call 15; refine (symbolsOk_b sym true hq _).mono ?_; rintro e w' ⟨rfl, rfl⟩) | (go_at_call 16; refine (sizeI_c _ _ _ _ (by omega)).mono ?_; rintro e w' ⟨rfl, rfl⟩))
    refine HVD.out.mono ?_
    rintro e wu ⟨rfl, hbu⟩
    have BU := BY.out.keep hbu; have HBU := Lib.hid hbu
    have s0 := BU.cell 0; have s1 := BU.cell 1
    have t0 := BU.frozen 0; have t1 := BU.frozen 1
    simp at s0 s1
    clear hbu BU
    go_wp2_with fail
    refine (HDT.out wu HBU.out).mono ?_
    rintro e wz ⟨rfl, hbz⟩
    have EZ := Lib.hid (HBU.out.trans (hbz.mono HBU.out.size))
    have BV := BY.out.keep EZ.out; have ZZ := ZY.out.keep EZ.out; have BZ := Lib.hid (BB.out.trans (EZ.out.mono hzW))
    have m0 := BV.cell 0; have m1 := BV.cell 1
    have n0 := BV.frozen 0; have n1 := BV.frozen 1
    simp at m0 m1
    have r0 := ZZ.cell 0; have r1 := ZZ.cell 1
    have f0 := ZZ.frozen 0; have f1 := ZZ.frozen 1
    simp at r0 r1
    clear hbz ZZ BV
    go_wp2_with fail
    refine bodyPost_ret (v := .tuple #[.agg #[i64 st, .slice (some ⟨g, 0, none⟩) n c], .bool true]) (by simp [results, Tryd.results5, go_sem, r0, r1]) rfl ?_
    rw [← HG.out]
    refine ⟨(some ⟨g, 0, none⟩), n, c, rfl, ?_, by omega, (BZ.out.setCell (by exact Nat.le_refl _) _).setCell (by exact Nat.le_refl _) _⟩
    have hlt9 : w.heap.size < w2.heap.size := by omega
    have h9 := (((((OY.out.wr.below EZ.out).wider (Nat.le_refl _) EZ.out.size)).set_far (p := ⟨w.heap.size, 0, none⟩) (.inl hlt9) (i64 st)).set_far (p := ⟨w.heap.size, 1, none⟩) (.inl hlt9) (.slice (some ⟨g, 0, none⟩) n c))
    have hsz9 : wz.heap.size ≤ ((wz.setCell ⟨w.heap.size, 0, none⟩ (i64 st)).setCell ⟨w.heap.size, 1, none⟩ (.slice (some ⟨g, 0, none⟩) n c)).heap.size := by simp
    exact h9.wider (Nat.le_of_lt hlt9) hsz9
  · have g9 : (txt == s) = false := by rw [beq_eq_false_iff_ne]; exact htt
    have HG := Lib.hid (show (((0, []), false) : DaD × Bool) = R by rw [← HR.out, HY2.out, if_neg (fun h => htt (HTX.out.symm.trans h.2))]; rfl)
    clear htt
    go_wp2_with (first | (go_at_call 15; refine (symbolsOk_b sym true hq _).mono ?_; rintro e w' ⟨rfl, rfl⟩) | (go_at_call 16; refine (sizeI_c _ _ _ _ (by omega)).mono ?_; rintro e w' ⟨rfl, rfl⟩))
    refine HVD.out.mono ?_
    rintro e wu ⟨rfl, hbu⟩
    have BU := BY.out.keep hbu; have HBU := Lib.hid hbu
    have s0 := BU.cell 0; have s1 := BU.cell 1
    have t0 := BU.frozen 0; have t1 := BU.frozen 1
    simp at s0 s1
    clear hbu BU
    go_wp2_with fail
    refine (HDT.out wu HBU.out).mono ?_
    rintro e wz ⟨rfl, hbz⟩
    have EZ := Lib.hid (HBU.out.trans (hbz.mono HBU.out.size))
    have ZZ := ZY.out.keep EZ.out; have BZ := Lib.hid (BB.out.trans (EZ.out.mono hzW))
    have r0 := ZZ.cell 0; have r1 := ZZ.cell 1
    have f0 := ZZ.frozen 0; have f1 := ZZ.frozen 1
    simp at r0 r1
    clear hbz ZZ
    go_wp2_with fail
    refine bodyPost_ret (v := .tuple #[.agg #[i64 0, .slice none 0 0], .bool false]) (by simp [results, Tryd.results5, go_sem, r0, r1]) rfl ?_
    rw [← HG.out]
    exact DaOut.bad ((BZ.out.setCell (by exact Nat.le_refl _) _).setCell (by exact Nat.le_refl _) _)
end Go.Proofs.YtdendllginlidaaDoor
