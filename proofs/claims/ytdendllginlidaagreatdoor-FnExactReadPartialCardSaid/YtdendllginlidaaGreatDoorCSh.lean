/-
  Reading, eighth part: the program's reader of a partial configuration.
-/
import Derived.Test.YtdendllginlidaaGreatDoorCSc
import Derived.Test.YtdendllginlidaaGreatDoorPRb
import Derived.Test.YtdendllginlidaaGreatDoorJoin
namespace Go.Proofs.YtdendllginlidaaGreatDoor
open Go.RowKit

abbrev PtD := Int × Int × List Int
/-- a partial configuration of the call's own, and a Bool -/
def PpOut (R : PtD × Bool) (w : World) (e : Ending) (w' : World) : Prop :=
  ∃ A n c, e = .returned (.tuple #[.agg #[.int .i64 R.1.1, .int .i64 R.1.2.1, .slice A n c], .bool R.2]) ∧ WrS w' w.heap.size w'.heap.size [sgI A n R.1.2.2] ∧ n ≤ 1000000 ∧ Below w.heap.size w w'
def ptV : Option PtD → PtD × Bool
  | some x => (x, true)
  | none => ((0, 0, []), false)
theorem PpOut.bad {w w' : World} (h : Below w.heap.size w w') : PpOut ((0, 0, []), false) w (.returned (.tuple #[.agg #[i64 0, i64 0, .slice none 0 0], .bool false])) w' := ⟨none, 0, 0, rfl, WrS.one (A := none) (n := 0) (vs := []) Wr.nil, by omega, h⟩
theorem cut_len (c : UInt8) (s : List UInt8) : (Lib.cut s [c]).1.length ≤ s.length ∧ (Lib.cut s [c]).2.1.length ≤ s.length := by
  by_cases h : c ∈ s
  · obtain ⟨a, b, hs, ha⟩ := List.eq_append_cons_of_mem h
    rw [(cut1 c s).2 a b ha hs, hs]
    simp; omega
  · rw [(cut1 c s).1 h]; simp
theorem ip_bad {sy st : Int} {rs : List Rule3} {s a b i d : List UInt8} {f1 f2 : Bool} (h1 : Lib.cut s [91] = (a, b, f1)) (h2 : Lib.cut b [93] = (i, d, f2)) (h : dgR a = none ∨ dgR d = none ∨ numD i = none) : ipR sy st rs s = none := by
  unfold ipR
  rw [h1]; simp only; rw [h2]; simp only
  split
  · rename_i e1 e2 e3
    rcases h with h | h | h
    · rw [h] at e1; cases e1
    · rw [h] at e2; cases e2
    · rw [h] at e3; cases e3
  · rfl
theorem ip_good {sy st n : Int} {rs : List Rule3} {s a b i d : List UInt8} {l r : List Int} {f1 f2 : Bool} (h1 : Lib.cut s [91] = (a, b, f1)) (h2 : Lib.cut b [93] = (i, d, f2)) (e1 : dgR a = some l) (e2 : dgR d = some r) (e3 : numD i = some n) :
    ipR sy st rs s = if ptR sy st rs n l.length (l ++ r) = s then some (n, (l.length : Int), l ++ r) else none := by
  unfold ipR
  rw [h1]; simp only; rw [h2]; simp only; rw [e1, e2, e3]
theorem numsV_no {o : Option (List Int)} {xs : List Int} (h : numsV o = (xs, false)) : o = none := by
  cases o with
  | none => rfl
  | some y => injection h with _ h; cases h
theorem numsV_yes {o : Option (List Int)} {xs : List Int} (h : numsV o = (xs, true)) : o = some xs := by
  cases o with
  | none => injection h with _ h; cases h
  | some y => injection h with h _; rw [h]
theorem ptR_some {sy st n k : Int} {rs : List Rule3} {xs : List Int} {s : List UInt8} (h : ptR sy st rs n k xs = s) (hs : s ≠ []) : vpartB sy st rs n k xs = true := by
  cases hv : vpartB sy st rs n k xs with
  | true => rfl
  | false => rw [ptR, hv, if_neg (by simp)] at h; exact absurd h.symm hs
theorem Cut_c (s : List UInt8) (c : UInt8) (a b : List UInt8) (f : Bool) (hc : Lib.cut s [c] = (a, b, f)) (w : World) (hL : LibS w) (hs : s.length ≤ 1048576) :
    Calls Tryz.prog 26 #[.string (bs s), .string ⟨#[c]⟩] w fun e w' => e = .returned (.tuple #[.string (bs a), .string (bs b), .bool f]) ∧ Below w.heap.size w w' := by
  obtain ⟨mx, hmx⟩ := hL.mx
  refine (Tryz.strings_Cut (bs s) ⟨#[c]⟩ mx w (by rw [bs_size]; omega) hmx).mono ?_
  rintro e w' ⟨rfl, k, rfl⟩
  rw [bs_dataS]
  show Ending.returned (.tuple #[.string ⟨(Lib.cut s [c]).1.toArray⟩, .string ⟨(Lib.cut s [c]).2.1.toArray⟩, .bool (Lib.cut s [c]).2.2]) = _ ∧ _
  rw [hc]
  exact ⟨rfl, below_drewN below_size k⟩
theorem joined2R_c (g : Nat) (t : TypeId) (P : Option Addr) (n c : Nat) (xs : List Int) (Q : Option Addr) (m d : Nat) (ys : List Int) (w : World) (hg : Blk w g t #[.slice P n c, .slice Q m d]) (hx : RdI w P n xs) (hy : RdI w Q m ys) (hn : n ≤ 1048576) (hm : m ≤ 1048576) :
    Calls Tryz.prog 30 #[.slice (some ⟨g, 0, none⟩) 2 2] w fun e w' => ∃ A k, e = .returned (.slice A (n + m) k) ∧ n + m ≤ k ∧ Wr w' w.heap.size w'.heap.size A (n + m) ((xs ++ ys).map i64) ∧ Below w.heap.size w w' := by
  refine (joined_c _ 2 2 _ w (rdV2 hg hx hy) (by omega) (by simp [sumV]; omega)).mono ?_
  rintro e w1 ⟨A, k, rfl, hw, hc, hb⟩
  simp only [sumV, Nat.add_zero, Nat.mul_one, List.flatMap_cons, List.flatMap_nil, List.append_nil] at hw hc ⊢
  exact ⟨A, k, rfl, hc, by rw [List.map_append]; exact hw, hb⟩
set_option maxHeartbeats 4000000 in
set_option maxRecDepth 100000 in
theorem iReadPartial_t (sy st : Int) (A0 : Option Addr) (n0 c0 : Nat) (rs : List Rule3) (s : List UInt8) (R : PtD × Bool) (hR : ptV (spR sy st rs s) = R) (w : World) (h : RdS w [sgX enc3 3 A0 n0 rs]) (hn0 : n0 ≤ 1000000000) (hs : s.length ≤ 1048576) (hL : LibS w) :
    Calls Tryz.prog 8 #[.agg #[.int .i64 sy, .int .i64 st, .slice A0 n0 c0], .string (bs s)] w (PpOut R w) := by
  have gss := bs_toListS s
  rw [← ip_eq] at hR
  have HR := Lib.hid hR; have HLS := Lib.hid hL; have HRd := Lib.hid h
  obtain ⟨⟨a, b, k1⟩, h1⟩ : ∃ r, Lib.cut s [91] = r := ⟨_, rfl⟩
  obtain ⟨⟨i, d, k2⟩, h2⟩ : ∃ r, Lib.cut b [93] = r := ⟨_, rfl⟩
  have HC1 := Lib.hid h1; have HC2 := Lib.hid h2
  have lab : a.length ≤ 1048576 ∧ b.length ≤ 1048576 := by have := cut_len 91 s; rw [h1] at this; exact ⟨Nat.le_trans this.1 hs, Nat.le_trans this.2 hs⟩
  have lid : i.length ≤ 1048576 ∧ d.length ≤ 1048576 := by have := cut_len 93 b; rw [h2] at this; exact ⟨Nat.le_trans this.1 lab.2, Nat.le_trans this.2 lab.2⟩
  obtain ⟨⟨l, q1⟩, e1⟩ : ∃ r, numsV (dgR a) = r := ⟨_, rfl⟩
  obtain ⟨⟨r, q2⟩, e2⟩ : ∃ r, numsV (dgR d) = r := ⟨_, rfl⟩
  obtain ⟨⟨v, q3⟩, e3⟩ : ∃ r, numV (numD i) = r := ⟨_, rfl⟩
  have HE1 := Lib.hid e1; have HE2 := Lib.hid e2; have HE3 := Lib.hid e3
  have hll : l.length ≤ 1048576 := by
    cases hd : dgR a with
    | none => rw [hd] at e1; injection e1 with e1 _; rw [← e1]; simp
    | some x => rw [hd] at e1; injection e1 with e1 _; rw [← e1, (dgR_some hd).2.2, cellsP, List.length_map]; exact lab.1
  have hrl : r.length ≤ 1048576 := by
    cases hd : dgR d with
    | none => rw [hd] at e2; injection e2 with e2 _; rw [← e2]; simp
    | some x => rw [hd] at e2; injection e2 with e2 _; rw [← e2, (dgR_some hd).2.2, cellsP, List.length_map]; exact lid.2
  obtain ⟨w1, hw1⟩ : ∃ w1, (w.alloc (.cells #[i64 sy, i64 st, .slice A0 n0 c0] 33)).alloc (.cells #[i64 0, i64 0, .slice none 0 0] 28) = w1 := ⟨_, rfl⟩
  have M1 := Lib.hid (show Blk w1 w.heap.size 33 #[i64 sy, i64 st, .slice A0 n0 c0] by rw [← hw1]; exact (Blk.new w _ _).keep (below_size.alloc (Nat.le_refl _) _))
  have Z1 := Lib.hid (show Blk w1 (w.heap.size + 1) 28 #[i64 0, i64 0, .slice none 0 0] by rw [← hw1]; have := Blk.new (w.alloc (.cells #[i64 sy, i64 st, .slice A0 n0 c0] 33)) 28 #[i64 0, i64 0, .slice none 0 0]; rw [World.size_alloc] at this; exact this)
  have B1 := Lib.hid (show Below w.heap.size w w1 by rw [← hw1]; exact (below_size.alloc (Nat.le_refl _) _).alloc (by simp) _)
  have hz1 : w1.heap.size = w.heap.size + 2 := by rw [← hw1]; simp
  clear hR hL h h1 h2 e1 e2 e3
  go_enter Tryz.func8, Tryz.ntmps8
  go_wp2_with fail
  refine (Cut_c s 91 a b k1 HC1.out w1 (HLS.out.below B1.out) hs).mono ?_
  rintro e w2 ⟨rfl, hb2⟩
  have E2 := Lib.hid hb2; have hz2 := hb2.size
  have B2 := Lib.hid (B1.out.trans (hb2.mono B1.out.size))
  clear hb2 hw1
  go_wp2_with fail
  refine (Cut_c b 93 i d k2 HC2.out w2 (HLS.out.below B2.out) lab.2).mono ?_
  rintro e w3 ⟨rfl, hb3⟩
  have E3 := Lib.hid (E2.out.trans (hb3.mono hz2)); have hz3 := hb3.size
  have B3 := Lib.hid (B2.out.trans (hb3.mono B2.out.size))
  clear hb3
  go_wp2_with fail
  refine (readDigits_c a _ HE1.out w3 lab.1).mono ?_
  rintro e w4 ⟨A1, n1, c1, rfl, ho4, hb4⟩
  have hn1 : l.length = n1 := by have h1 := ho4.1; rw [List.length_map] at h1; have h2 : ((l, q1).1).length = l.length := rfl; omega
  have P4 := Lib.hid (show RdI w4 A1 n1 l from ho4.wr.rdI)
  have E4 := Lib.hid (E3.out.trans (hb4.mono (by omega))); have hz4 := hb4.size
  clear ho4 hb4
  go_wp2_with fail
  refine (readDigits_c d _ HE2.out w4 lid.2).mono ?_
  rintro e w5 ⟨A2, n2, c2, rfl, ho5, hb5⟩
  have hn2 : r.length = n2 := by have h1 := ho5.1; rw [List.length_map] at h1; have h2 : ((r, q2).1).length = r.length := rfl; omega
  have Q5 := Lib.hid (show RdI w5 A2 n2 r from ho5.wr.rdI); have P5 := Lib.hid (P4.out.below hb5)
  have E5 := Lib.hid (E4.out.trans (hb5.mono (by omega))); have hz5 := hb5.size
  have B5 := Lib.hid (B1.out.trans (E5.out.mono B1.out.size))
  clear ho5 hb5 P4
  go_wp2_with fail
  refine (ReadDecimal_c i v q3 w5 (HLS.out.below B5.out) lid.1 HE3.out).mono ?_
  rintro e w6 ⟨rfl, hb6⟩
  have E6 := Lib.hid (E5.out.trans (hb6.mono (by omega))); have hz6 := hb6.size
  obtain ⟨w7, hw7⟩ : ∃ w7, w6.alloc (.cells #[.slice A1 n1 c1, .slice A2 n2 c2] 26) = w7 := ⟨_, rfl⟩
  have b67 : Below w6.heap.size w6 w7 := by rw [← hw7]; exact below_size.alloc (Nat.le_refl _) _
  have L7 := Lib.hid (show Blk w7 w6.heap.size 26 #[.slice A1 n1 c1, .slice A2 n2 c2] by rw [← hw7]; exact Blk.new _ _ _)
  have P7 := Lib.hid ((P5.out.below hb6).below b67); have Q7 := Lib.hid ((Q5.out.below hb6).below b67)
  have E7 := Lib.hid (E6.out.trans (b67.mono (by omega))); have hz7 := b67.size
  have HJ := Lib.hid (joined2R_c _ _ A1 n1 c1 l A2 n2 c2 r w7 L7.out P7.out Q7.out (by omega) (by omega))
  clear hb6 b67 P5 Q5
  go_wp2_with (go_at_call 29; refine (sizeI_c _ _ _ _ (by omega)).mono ?_; rintro e w' ⟨rfl, rfl⟩)
  refine HJ.out.mono ?_
  rintro e w8 ⟨A3, c3, rfl, hc3, hw8, hb8⟩
  have E8 := Lib.hid (E7.out.trans (hb8.mono (by omega))); have hz8 := hb8.size
  have W8 := Lib.hid hw8
  obtain ⟨w9, hw9⟩ : ∃ w9, w8.alloc (.cells #[i64 0, i64 0, .slice none 0 0] 28) = w9 := ⟨_, rfl⟩
  have b89 : Below w8.heap.size w8 w9 := by rw [← hw9]; exact below_size.alloc (Nat.le_refl _) _
  have BX := Lib.hid (show Blk w9 w8.heap.size 28 #[i64 0, i64 0, .slice none 0 0] by rw [← hw9]; exact Blk.new _ _ _)
  have m0 := BX.out.cell 0; have m1 := BX.out.cell 1; have m2 := BX.out.cell 2
  have k0 := BX.out.frozen 0; have k1' := BX.out.frozen 1; have k2' := BX.out.frozen 2
  simp at m0 m1 m2
  obtain ⟨wy, hwy⟩ : ∃ wy, ((w9.setCell ⟨w8.heap.size, 0, none⟩ (i64 v)).setCell ⟨w8.heap.size, 1, none⟩ (i64 (n1 : Int))).setCell ⟨w8.heap.size, 2, none⟩ (.slice A3 (n1 + n2) c3) = wy := ⟨_, rfl⟩
  have b8y : Below w8.heap.size w8 wy := by rw [← hwy]; exact ((b89.setCell (Nat.le_refl _) _).setCell (Nat.le_refl _) _).setCell (Nat.le_refl _) _
  have BY := Lib.hid (show Blk wy w8.heap.size 28 #[i64 v, i64 (n1 : Int), .slice A3 (n1 + n2) c3] by rw [← hwy]; exact ((BX.out.set_ 0 _).set_ 1 _).set_ 2 _)
  have EY := Lib.hid (E8.out.trans (b8y.mono (by omega))); have hzy := b8y.size
  have WY := Lib.hid (show Wr wy w7.heap.size w8.heap.size A3 (n1 + n2) ((l ++ r).map i64) from W8.out.below b8y)
  have MY := Lib.hid (M1.out.keep EY.out); have ZY := Lib.hid (Z1.out.keep EY.out); have B9 := Lib.hid (B1.out.trans (EY.out.mono B1.out.size))
  have HRY := Lib.hid (HRd.out.below B9.out)
  have hzW := B9.out.size
  have r0 := ZY.out.cell 0; have r1 := ZY.out.cell 1; have r2 := ZY.out.cell 2
  have f0 := ZY.out.frozen 0; have f1 := ZY.out.frozen 1; have f2 := ZY.out.frozen 2
  simp at r0 r1 r2
  clear hw8 hb8 b89 b8y W8 P7 Q7 L7 HJ hw7
  by_cases hq : q1 = true ∧ q2 = true ∧ q3 = true
  rotate_left
  · have HG := Lib.hid (show (((0, 0, []), false) : PtD × Bool) = R by
      rw [← HR.out, ip_bad HC1.out HC2.out]
      · rfl
      · cases q1
        · exact .inl (numsV_no HE1.out)
        · cases q2
          · exact .inr (.inl (numsV_no HE2.out))
          · cases q3
            · exact .inr (.inr (numV_no HE3.out))
            · exact absurd ⟨rfl, rfl, rfl⟩ hq)
    cases q1
    · clear hq
      go_wp2_with fail
      refine bodyPost_ret (v := .tuple #[.agg #[i64 0, i64 0, .slice none 0 0], .bool false]) (by simp [results, Tryz.results8, go_sem, r0, r1, r2]) rfl ?_
      rw [← HG.out]
      exact PpOut.bad (((B9.out.setCell (by exact Nat.le_succ _) _).setCell (by exact Nat.le_succ _) _).setCell (by exact Nat.le_succ _) _)
    · cases q2
      · clear hq
        go_wp2_with fail
        refine bodyPost_ret (v := .tuple #[.agg #[i64 0, i64 0, .slice none 0 0], .bool false]) (by simp [results, Tryz.results8, go_sem, r0, r1, r2]) rfl ?_
        rw [← HG.out]
        exact PpOut.bad (((B9.out.setCell (by exact Nat.le_succ _) _).setCell (by exact Nat.le_succ _) _).setCell (by exact Nat.le_succ _) _)
      · cases q3
        · clear hq
          go_wp2_with fail
          refine bodyPost_ret (v := .tuple #[.agg #[i64 0, i64 0, .slice none 0 0], .bool false]) (by simp [results, Tryz.results8, go_sem, r0, r1, r2]) rfl ?_
          rw [← HG.out]
          exact PpOut.bad (((B9.out.setCell (by exact Nat.le_succ _) _).setCell (by exact Nat.le_succ _) _).setCell (by exact Nat.le_succ _) _)
        · exact absurd ⟨rfl, rfl, rfl⟩ hq
  obtain ⟨rfl, rfl, rfl⟩ := hq
  obtain ⟨txt, htx⟩ : ∃ t, ptR sy st rs v (n1 : Int) (l ++ r) = t := ⟨_, rfl⟩
  have HTX := Lib.hid htx; have gtx := bs_toListS txt
  have HI := Lib.hid (show ipR sy st rs s = if txt = s then some (v, (n1 : Int), l ++ r) else none by
    rw [ip_good HC1.out HC2.out (numsV_yes HE1.out) (numsV_yes HE2.out) (numV_yes HE3.out), hn1, htx])
  have HPT := Lib.hid (iPartialText_c sy st A0 n0 c0 rs v (n1 : Int) A3 (n1 + n2) c3 (l ++ r) wy HRY.out (WrS.one WY.out).rd hn0 (by omega) hc3 (HLS.out.below B9.out).tab)
  rw [HTX.out] at HPT
  have x0 := MY.out.cell 0; have x1 := MY.out.cell 1; have x2 := MY.out.cell 2
  have y0 := MY.out.frozen 0; have y1 := MY.out.frozen 1; have y2 := MY.out.frozen 2
  simp at x0 x1 x2
  clear htx
  have HCE := Lib.hid (show txt = s → s ≠ [] from fun e he => by
    have h1 := HC1.out
    rw [he] at h1
    have h2 : Lib.cut ([] : List UInt8) [91] = ([], [], false) := by decide
    rw [h2] at h1
    injection h1 with _ h1; injection h1 with h1 _
    have h3 := HC2.out
    rw [← h1] at h3
    have h4 : Lib.cut ([] : List UInt8) [93] = ([], [], false) := by decide
    rw [h4] at h3
    injection h3 with h3 _
    have h5 := HE3.out
    rw [← h3, numD_nil] at h5
    injection h5 with _ h5; cases h5)
  have p0 := BY.out.cell 0; have p1 := BY.out.cell 1; have p2 := BY.out.cell 2
  simp at p0 p1 p2
  by_cases htt : txt = s
  · have g9 : (txt == s) = true := by rw [beq_iff_eq]; exact htt
    have hv := ptR_some (HTX.out.trans htt) (HCE.out htt)
    rw [vpartB, Bool.and_eq_true] at hv
    obtain ⟨mb1, mb2⟩ := machB_bd hv.1
    obtain ⟨pb1, pb2, pb3, pb4⟩ := partB_bd hv.2 mb1 mb2.1
    rw [List.length_append] at pb2
    have hn12 : n1 + n2 ≤ 60 := by omega
    have HG := Lib.hid (show ((v, (n1 : Int), l ++ r), true) = R by rw [← HR.out, HI.out, if_pos htt]; rfl)
    clear htt hv mb1 mb2 pb1 pb2 pb3 pb4
    go_wp2_with fail
    refine HPT.out.mono ?_
    rintro e wz ⟨rfl, hbz⟩
    have BZ := BY.out.keep hbz; have ZZ := ZY.out.keep hbz
    have B10 := Lib.hid (B9.out.trans (hbz.mono hzW)); have HBZ := Lib.hid hbz
    have s0 := BZ.cell 0; have s1 := BZ.cell 1; have s2 := BZ.cell 2
    have t0 := BZ.frozen 0; have t1 := BZ.frozen 1; have t2 := BZ.frozen 2
    simp at s0 s1 s2
    have r0 := ZZ.cell 0; have r1 := ZZ.cell 1; have r2 := ZZ.cell 2
    have f0 := ZZ.frozen 0; have f1 := ZZ.frozen 1; have f2 := ZZ.frozen 2
    simp at r0 r1 r2
    clear hbz BZ ZZ
    go_wp2_with fail
    refine bodyPost_ret (v := .tuple #[.agg #[i64 v, i64 (n1 : Int), .slice A3 (n1 + n2) c3], .bool true]) (by simp [results, Tryz.results8, go_sem, r0, r1, r2]) rfl ?_
    rw [← HG.out]
    refine ⟨A3, n1 + n2, c3, rfl, ?_, by omega, ((B10.out.setCell (by exact Nat.le_succ _) _).setCell (by exact Nat.le_succ _) _).setCell (by exact Nat.le_succ _) _⟩
    have hlt : w.heap.size + 1 < w7.heap.size := by omega
    have hWZ := (WrS.one WY.out).below HBZ.out
    have h9 := (((hWZ.set_far (p := ⟨w.heap.size + 1, 0, none⟩) (.inl hlt) (i64 v)).set_far (p := ⟨w.heap.size + 1, 1, none⟩) (.inl hlt) (i64 (n1 : Int))).set_far (p := ⟨w.heap.size + 1, 2, none⟩) (.inl hlt) (.slice A3 (n1 + n2) c3))
    exact h9.wider (by omega) (by simp; have := HBZ.out.size; omega)
  · have g9 : (txt == s) = false := by rw [beq_eq_false_iff_ne]; exact htt
    have HG := Lib.hid (show (((0, 0, []), false) : PtD × Bool) = R by rw [← HR.out, HI.out, if_neg htt]; rfl)
    clear htt
    go_wp2_with fail
    refine HPT.out.mono ?_
    rintro e wz ⟨rfl, hbz⟩
    have ZZ := ZY.out.keep hbz
    have B10 := Lib.hid (B9.out.trans (hbz.mono hzW))
    have r0 := ZZ.cell 0; have r1 := ZZ.cell 1; have r2 := ZZ.cell 2
    have f0 := ZZ.frozen 0; have f1 := ZZ.frozen 1; have f2 := ZZ.frozen 2
    simp at r0 r1 r2
    clear hbz ZZ
    go_wp2_with fail
    refine bodyPost_ret (v := .tuple #[.agg #[i64 0, i64 0, .slice none 0 0], .bool false]) (by simp [results, Tryz.results8, go_sem, r0, r1, r2]) rfl ?_
    rw [← HG.out]
    exact PpOut.bad (((B10.out.setCell (by exact Nat.le_succ _) _).setCell (by exact Nat.le_succ _) _).setCell (by exact Nat.le_succ _) _)
end Go.Proofs.YtdendllginlidaaGreatDoor
