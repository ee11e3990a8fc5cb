/-
  Reading, ninth part: the reference's reader of a partial configuration; the law's contracts.
-/
import Derived.Test.YtdendllginlidaaGreatDoorCSh
import Derived.BigQuiet
namespace Go.Proofs.YtdendllginlidaaGreatDoor
open Go.RowKit

theorem bs_listP (x : ByteArray) : ∃ l, x = bs l := ⟨x.data.toList, by apply ByteArray.ext; simp [bs]⟩
theorem sp_mach {sy st : Int} {rs : List Rule3} {s : List UInt8} (h : machB sy st rs = false) : spR sy st rs s = none := by unfold spR; rw [if_pos h]
theorem sp_len {sy st : Int} {rs : List Rule3} {s : List UInt8} (h : (spl 91 s).length ≠ 2) : spR sy st rs s = none := by
  unfold spR
  split
  · rfl
  · split
    · rename_i e; rw [e] at h; exact absurd rfl h
    · rfl
theorem sp_len2 {sy st : Int} {rs : List Rule3} {s a b : List UInt8} (h1 : spl 91 s = [a, b]) (h : (spl 93 b).length ≠ 2) : spR sy st rs s = none := by
  unfold spR
  rw [h1]
  split
  · rfl
  · simp only
    split
    · rename_i e; rw [e] at h; exact absurd rfl h
    · rfl
theorem sp_num {sy st : Int} {rs : List Rule3} {s a b c d : List UInt8} (h1 : spl 91 s = [a, b]) (h2 : spl 93 b = [c, d]) (h : numD c = none) : spR sy st rs s = none := by
  unfold spR
  rw [h1]
  split
  · rfl
  · simp only; rw [h2]; simp only; rw [h]
theorem sp_good {sy st n : Int} {rs : List Rule3} {s a b c d : List UInt8} (hm : machB sy st rs = true) (h1 : spl 91 s = [a, b]) (h2 : spl 93 b = [c, d]) (h : numD c = some n) :
    spR sy st rs s = if partB sy st n a.length (cellsP (a ++ d)) = true ∧ pText n a.length (cellsP (a ++ d)) = s then some (n, (a.length : Int), cellsP (a ++ d)) else none := by
  unfold spR
  rw [hm, if_neg (by simp), h1]
  simp only
  rw [h2]
  simp only
  rw [h]
theorem two_of {α : Type} {l : List α} (h : l.length = 2) : ∃ a b, l = [a, b] := by
  match l, h with
  | [a, b], _ => exact ⟨a, b, rfl⟩
set_option maxHeartbeats 4000000 in
set_option maxRecDepth 100000 in
theorem sReadPartial_t (sy st : Int) (A0 : Option Addr) (n0 c0 : Nat) (rs : List Rule3) (s : List UInt8) (R : PtD × Bool) (hR : ptV (spR sy st rs s) = R) (w : World) (h : RdS w [sgX enc3 3 A0 n0 rs]) (hn0 : n0 ≤ 1000000000) (hs : s.length ≤ 1048576) :
    Calls Tryz.prog 6 #[.agg #[.int .i64 sy, .int .i64 st, .slice A0 n0 c0], .string (bs s)] w (PpOut R w) := by
  have gss := bs_toListS s
  have HR := Lib.hid hR; have HRd := Lib.hid h
  obtain ⟨w1, hw1⟩ : ∃ w1, (w.alloc (.cells #[i64 sy, i64 st, .slice A0 n0 c0] 33)).alloc (.cells #[i64 0, i64 0, .slice none 0 0] 28) = w1 := ⟨_, rfl⟩
  have M1 := Lib.hid (show Blk w1 w.heap.size 33 #[i64 sy, i64 st, .slice A0 n0 c0] by rw [← hw1]; exact (Blk.new w _ _).keep (below_size.alloc (Nat.le_refl _) _))
  have Z1 := Lib.hid (show Blk w1 (w.heap.size + 1) 28 #[i64 0, i64 0, .slice none 0 0] by rw [← hw1]; have := Blk.new (w.alloc (.cells #[i64 sy, i64 st, .slice A0 n0 c0] 33)) 28 #[i64 0, i64 0, .slice none 0 0]; rw [World.size_alloc] at this; exact this)
  have B1 := Lib.hid (show Below w.heap.size w w1 by rw [← hw1]; exact (below_size.alloc (Nat.le_refl _) _).alloc (by simp) _)
  have hz1 : w1.heap.size = w.heap.size + 2 := by rw [← hw1]; simp
  have MP1 := Lib.hid (show MachP w1 w.heap.size sy st A0 n0 c0 rs from ⟨M1.out.cell 0, M1.out.cell 1, M1.out.cell 2, (HRd.out.below B1.out).head⟩)
  obtain ⟨qm, hqm⟩ : ∃ q, machB sy st rs = q := ⟨_, rfl⟩
  have HQM := Lib.hid hqm
  obtain ⟨P1, hp1⟩ : ∃ p, spl 91 s = p := ⟨_, rfl⟩
  obtain ⟨m1, hm1⟩ : ∃ m, P1.length = m := ⟨_, rfl⟩
  have HPL := Lib.hid (show ∀ x ∈ P1, x.length ≤ 1048576 from fun x hx => by have := spl_piece 91 s x (by rw [hp1]; exact hx); omega)
  have HSP := Lib.hid (show ∀ (w' : World) (cv : Int), cv = 91 → Calls Tryz.prog 21 #[.string (bs s), .int .u8 cv] w' (StrOut P1 m1 w') from fun w' cv hcv => by
    have := l01Split_c s 91 cv (by rw [hcv]; rfl) m1 (by rw [hp1, hm1]) w' hs
    rw [hp1] at this; exact this)
  have HP1 := Lib.hid hp1; have HM1 := Lib.hid hm1
  have hmb : m1 ≤ 1048577 := by rw [← hm1, ← hp1, spl_len]; have := List.count_le_length (a := 91) (l := s); omega
  clear hR h hqm hp1 hm1
  go_enter Tryz.func6, Tryz.ntmps6
  go_wp2_with fail
  refine (l05Is_c _ sy st A0 n0 c0 rs qm w1 MP1.out hn0 HQM.out).mono ?_
  rintro e w2 ⟨rfl, hb2⟩
  have E2 := Lib.hid hb2; have hz2 := hb2.size
  have B2 := Lib.hid (B1.out.trans (hb2.mono B1.out.size))
  have Z2 := Lib.hid (Z1.out.keep hb2)
  clear hb2 hw1
  cases qm
  · have HG := Lib.hid (show (((0, 0, []), false) : PtD × Bool) = R by rw [← HR.out, sp_mach HQM.out]; rfl)
    have r0 := Z2.out.cell 0; have r1 := Z2.out.cell 1; have r2 := Z2.out.cell 2
    have f0 := Z2.out.frozen 0; have f1 := Z2.out.frozen 1; have f2 := Z2.out.frozen 2
    simp at r0 r1 r2
    go_wp2_with fail
    refine bodyPost_ret (v := .tuple #[.agg #[i64 0, i64 0, .slice none 0 0], .bool false]) (by simp [results, Tryz.results6, go_sem, r0, r1, r2]) rfl ?_
    rw [← HG.out]
    exact PpOut.bad (((B2.out.setCell (by exact Nat.le_succ _) _).setCell (by exact Nat.le_succ _) _).setCell (by exact Nat.le_succ _) _)
  go_wp2_with fail
  refine (HSP.out _ _ (by omega)).mono ?_
  rintro e w3 ⟨A, c, rfl, hA, hb3⟩
  have PA := Lib.hid hA
  have E3 := Lib.hid (E2.out.trans (hb3.mono hz2)); have hz3 := hb3.size
  have B3 := Lib.hid (B2.out.trans (hb3.mono B2.out.size)); have Z3 := Lib.hid (Z2.out.keep hb3)
  clear hA hb3 HSP
  by_cases h2 : m1 = 2
  rotate_left
  · have HG := Lib.hid (show (((0, 0, []), false) : PtD × Bool) = R by rw [← HR.out, sp_len (by rw [HP1.out, HM1.out]; exact h2)]; rfl)
    have g3 : ((m1 : Int) != 2) = true := by simp; omega
    have r0 := Z3.out.cell 0; have r1 := Z3.out.cell 1; have r2 := Z3.out.cell 2
    have f0 := Z3.out.frozen 0; have f1 := Z3.out.frozen 1; have f2 := Z3.out.frozen 2
    simp at r0 r1 r2
    clear h2
    go_wp2_with fail
    refine bodyPost_ret (v := .tuple #[.agg #[i64 0, i64 0, .slice none 0 0], .bool false]) (by simp [results, Tryz.results6, go_sem, r0, r1, r2]) rfl ?_
    rw [← HG.out]
    exact PpOut.bad (((B3.out.setCell (by exact Nat.le_succ _) _).setCell (by exact Nat.le_succ _) _).setCell (by exact Nat.le_succ _) _)
  subst h2
  obtain ⟨a, b, hpd⟩ := two_of HM1.out
  subst hpd
  obtain ⟨ad, v0, rfl, hblk, hlt, _, hv0, hc0, _⟩ := PA.out.wr.at_ (k := 0) (by omega)
  obtain ⟨_, v1, e1, _, _, _, hv1, hc1, _⟩ := PA.out.wr.at_ (k := 1) (by omega)
  injection e1 with e1; subst e1
  simp only [List.map_cons, List.map_nil, List.getElem?_cons_zero, List.getElem?_cons_succ, Option.some.injEq] at hv0 hv1
  subst hv0 hv1
  have gadd : ad.add 0 = ad := by simp [Addr.add]
  rw [gadd] at hc0
  have C0 := Lib.hid hc0
  have cc1 : w3.cell? ⟨ad.block, ad.off + 1, none⟩ = some (.string (bs b)) := hc1
  have HLA := Lib.hid (HPL.out a (by simp)); have HLB := Lib.hid (HPL.out b (by simp))
  obtain ⟨P2, hp2⟩ : ∃ p, spl 93 b = p := ⟨_, rfl⟩
  obtain ⟨m2, hm2⟩ : ∃ m, P2.length = m := ⟨_, rfl⟩
  have HPL2 := Lib.hid (show ∀ x ∈ P2, x.length ≤ 1048576 from fun x hx => by have h1 := spl_piece 93 b x (by rw [hp2]; exact hx); have h2 := HLB.out; omega)
  have HSP2 := Lib.hid (show ∀ (w' : World) (cv : Int), cv = 93 → Calls Tryz.prog 21 #[.string (bs b), .int .u8 cv] w' (StrOut P2 m2 w') from fun w' cv hcv => by
    have := l01Split_c b 93 cv (by rw [hcv]; rfl) m2 (by rw [hp2, hm2]) w' HLB.out
    rw [hp2] at this; exact this)
  have HP2 := Lib.hid hp2; have HM2 := Lib.hid hm2
  have hmb2 : m2 ≤ 1048577 := by rw [← hm2, ← hp2, spl_len]; have h1 := List.count_le_length (a := 93) (l := b); have h2 := HLB.out; omega
  clear hp2 hm2 hc0 hc1 gadd
  go_wp2_with fail
  refine (HSP2.out _ _ (by omega)).mono ?_
  rintro e w4 ⟨A', c', rfl, hA, hb4⟩
  have PA2 := Lib.hid hA
  have E4 := Lib.hid (E3.out.trans (hb4.mono (by omega))); have hz4 := hb4.size
  have B4 := Lib.hid (B3.out.trans (hb4.mono B3.out.size)); have Z4 := Lib.hid (Z3.out.keep hb4)
  have D0 := Lib.hid (keepc hb4 C0.out)
  clear hA hb4 HSP2 cc1
  by_cases h2 : m2 = 2
  rotate_left
  · have HG := Lib.hid (show (((0, 0, []), false) : PtD × Bool) = R by rw [← HR.out, sp_len2 HP1.out (by rw [HP2.out, HM2.out]; exact h2)]; rfl)
    have g3 : ((m2 : Int) != 2) = true := by simp; omega
    have r0 := Z4.out.cell 0; have r1 := Z4.out.cell 1; have r2 := Z4.out.cell 2
    have f0 := Z4.out.frozen 0; have f1 := Z4.out.frozen 1; have f2 := Z4.out.frozen 2
    simp at r0 r1 r2
    clear h2
    go_wp2_with fail
    refine bodyPost_ret (v := .tuple #[.agg #[i64 0, i64 0, .slice none 0 0], .bool false]) (by simp [results, Tryz.results6, go_sem, r0, r1, r2]) rfl ?_
    rw [← HG.out]
    exact PpOut.bad (((B4.out.setCell (by exact Nat.le_succ _) _).setCell (by exact Nat.le_succ _) _).setCell (by exact Nat.le_succ _) _)
  subst h2
  obtain ⟨x, d, hpd⟩ := two_of HM2.out
  subst hpd
  obtain ⟨ad2, v0, rfl, hblk2, hlt2, _, hv0, hc0, _⟩ := PA2.out.wr.at_ (k := 0) (by omega)
  obtain ⟨_, v1, e1, _, _, _, hv1, hc1, _⟩ := PA2.out.wr.at_ (k := 1) (by omega)
  injection e1 with e1; subst e1
  simp only [List.map_cons, List.map_nil, List.getElem?_cons_zero, List.getElem?_cons_succ, Option.some.injEq] at hv0 hv1
  subst hv0 hv1
  have gadd : ad2.add 0 = ad2 := by simp [Addr.add]
  rw [gadd] at hc0
  have cc1 : w4.cell? ⟨ad2.block, ad2.off + 1, none⟩ = some (.string (bs d)) := hc1
  have dd0 := D0.out
  have HLX := Lib.hid (HPL2.out x (by simp)); have HLD := Lib.hid (HPL2.out d (by simp))
  obtain ⟨⟨v, q3⟩, hv⟩ : ∃ r, numV (numD x) = r := ⟨_, rfl⟩
  have HV := Lib.hid hv
  obtain ⟨na, hna⟩ : ∃ n, a.length = n := ⟨_, rfl⟩
  obtain ⟨nd, hnd⟩ : ∃ n, d.length = n := ⟨_, rfl⟩
  have hsa : (bs a).size = na := by rw [bs_size, hna]
  have hsd : (bs d).size = nd := by rw [bs_size, hnd]
  have lna : na ≤ 1048576 := by rw [← hna]; exact HLA.out
  have lnd : nd ≤ 1048576 := by rw [← hnd]; exact HLD.out
  have HNA := Lib.hid hna; have HND := Lib.hid hnd
  obtain ⟨t, ht⟩ : ∃ t, a ++ d = t := ⟨_, rfl⟩
  have hap : bs a ++ bs d = bs t := by rw [bs_add, ht]
  obtain ⟨m, hm⟩ : ∃ m, t.length = m := ⟨_, rfl⟩
  have hst : (bs t).size = m := by rw [bs_size, hm]
  have hmn : na + nd = m := by rw [← hm, ← ht, List.length_append]; omega
  have HT := Lib.hid ht; have HM := Lib.hid hm
  obtain ⟨w5, hw5⟩ : ∃ w5, w4.alloc (.cells #[i64 0, i64 0, .slice none 0 0] 28) = w5 := ⟨_, rfl⟩
  have BX := Lib.hid (show Blk w5 w4.heap.size 28 #[i64 0, i64 0, .slice none 0 0] by rw [← hw5]; exact Blk.new _ _ _)
  have b45 : Below w4.heap.size w4 w5 := by rw [← hw5]; exact below_size.alloc (Nat.le_refl _) _
  have p0 := BX.out.cell 0; have p1 := BX.out.cell 1; have p2 := BX.out.cell 2
  have u0 := BX.out.frozen 0; have u1 := BX.out.frozen 1; have u2 := BX.out.frozen 2
  simp at p0 p1 p2
  obtain ⟨wy, hwy⟩ : ∃ wy, ((w5.setCell ⟨w4.heap.size, 0, none⟩ (i64 v)).setCell ⟨w4.heap.size, 1, none⟩ (i64 (na : Int))).setCell ⟨w4.heap.size, 2, none⟩ (.slice none 0 0) = wy := ⟨_, rfl⟩
  have b4y : Below w4.heap.size w4 wy := by rw [← hwy]; exact ((b45.setCell (Nat.le_refl _) _).setCell (Nat.le_refl _) _).setCell (Nat.le_refl _) _
  have BY := Lib.hid (show Blk wy w4.heap.size 28 #[i64 v, i64 (na : Int), .slice none 0 0] by rw [← hwy]; exact ((BX.out.set_ 0 _).set_ 1 _).set_ 2 _)
  have dy0 : wy.cell? ad = some (.string (bs a)) := keepc b4y D0.out
  have cy1 : wy.cell? ⟨ad2.block, ad2.off + 1, none⟩ = some (.string (bs d)) := keepc b4y cc1
  have E5 := Lib.hid (E4.out.trans (b4y.mono (by omega))); have hzy := b4y.size
  have ltg : w4.heap.size < wy.heap.size := BY.out.lt
  clear hv hna hnd ht hm hc1 gadd b45 b4y
  go_wp2_with (go_at_call 22; refine (l01Number_c x v q3 _ HLX.out HV.out).mono ?_; rintro e w' ⟨rfl, rfl⟩)
  go_quiet (fail)
  go_wp2_with fail
  have EB := Lib.hid (show Below w4.heap.size w4 (wy.drewN nq) from below_drewN (by rw [← hwy, ← hw5]; exact (((below_size.alloc (Nat.le_refl _) _).setCell (Nat.le_refl _) _).setCell (Nat.le_refl _) _).setCell (Nat.le_refl _) _) nq)
  have Z4' := Z4; have B4' := B4
  clear p0 p1 p2 u0 u1 u2 hwy hw5 dy0 cy1 cc1 dd0 hap BX
  go_loopw [12] (fun iv wr => ∃ (k : Nat) (C : Option Addr) (cc : Nat), iv = .int .i64 k ∧ k ≤ m ∧ Hid (Blk wr w4.heap.size 28 #[i64 v, i64 (na : Int), .slice C k cc]) ∧ Hid (Own wr wy.heap.size 2 1 C k cc ((cellsP (t.take k)).map i64)) ∧ Hid (Below w4.heap.size w4 wr) ∧ wy.heap.size ≤ wr.heap.size) (fun iv _ => m - (intOf iv).toNat)
  case atStart => exact ⟨0, none, 0, rfl, by omega, BY.out.drewN _, Own.nil, EB.out, Nat.le_refl _⟩
  case round =>
    obtain ⟨k, C, cc, rfl, hk, hB, hO, hW, hzr⟩ := hrel
    by_cases hlt : k < m
    · obtain ⟨bt, hbt⟩ : ∃ b, t[k]? = some b := ⟨_, List.getElem?_eq_getElem (by rw [HM.out]; exact hlt)⟩
      obtain ⟨y, hy⟩ : ∃ y : Int, (bt.toNat : Int) = y := ⟨_, rfl⟩
      have hyb : 0 ≤ y ∧ y ≤ 255 := by have := UInt8.toNat_lt bt; omega
      have hix := fun w => run_ixS hbt hy w
      have v0 : IntKind.i64.wrap y = y := IntWalk.i64_in _ (by omega)
      have v1 : IntKind.i64.wrap (y - 48) = y - 48 := IntWalk.i64_in _ (by omega)
      have HE := Lib.hid (show (cellsP (t.take (k + 1))).map i64 = (cellsP (t.take k)).map i64 ++ [i64 (y - 48)] by rw [cellsP_succ hbt, List.map_append, hy]; rfl)
      have kc := hB.out.cell 2
      simp at kc
      have x0 := Ext.cell kc
      have hgr := hB.out.lt
      clear hbt hy
      go_wp2_with fail
      refine Mix.wp_region_mix [0, 3, 0, 0, 0, 0, 0, 1, 2, 0, 2] (fun w' => ∃ x : Ext wr, w' = x.w) (by kernel_rfl) (by kernel_rfl) (InExt.drew _) ?_
      repeat (first | (refine Mix.wpMix_read (by rfl) ?_; go_big_quiet_step (fail); refine wpQuiet_nil ?_) | (refine Mix.wpMix_pure (by rfl) ?_; go_big_quiet_step (fail); refine wpQuiet_nil ?_))
      refine Mix.wpMix_chg (by rfl) (fun K hK => ?_)
      go_wp2_with fail
      obtain ⟨w5, hw5⟩ : ∃ w5, (wr.alloc (.cells #[.int .i64 (y - 48)] 2)).drew = w5 := ⟨_, rfl⟩
      rw [hw5]
      have E45 := Lib.hid (show Below wr.heap.size wr w5 by rw [← hw5]; exact below_drew (below_size.alloc (Nat.le_refl _) _))
      have K5 := Lib.hid (show Blk w5 wr.heap.size 2 #[.int .i64 (y - 48)] by rw [← hw5]; exact (Blk.new _ _ _).drew)
      have hz5 := E45.out.size
      clear hw5
      refine hK _ _ ⟨⟨_, E45.out⟩, rfl⟩ ?_
      clear hK K
      refine Mix.wpMix_tail (by rfl) (fun K hK => ?_)
      refine wp_app1 (by rfl) _ _ 26 2 (.int .i64 0) 8 (by rfl) Tryz.underlying26 info_i64 rfl wy.heap.size C k cc ((cellsP (t.take k)).map i64) (by rfl) (by exact hO.out.keep E45.out) wr.heap.size (i64 (y - 48)) (by rfl) (by exact K5.out.cell 0) rfl (by omega) (by omega) (by omega) ?_
      intro g' cap w6 own6 hb6 hk6 hg6 hz6
      have O6 := Lib.hid own6
      have B6 := Lib.hid (show Blk w6 w4.heap.size 28 #[i64 v, i64 (na : Int), .slice C k cc] from (hB.out.keep E45.out).of_block (hk6 _ (by omega) (fun ad' e => by have := (hO.out.block e).1; omega)))
      have W6 := Lib.hid (show Below w4.heap.size w4 w6 from (hW.out.trans (E45.out.mono (by omega))).trans (hb6.mono (by omega)))
      have g6c := B6.out.cell 2; have g6f := B6.out.frozen 2
      simp at g6c
      clear own6 hb6 hk6 hg6
      go_wp2_with fail
      refine hK _ _ ?_
      clear hK K
      repeat (first | (refine Mix.wpMix_read (by rfl) ?_; go_big_quiet_step (fail); refine wpQuiet_nil ?_) | (refine Mix.wpMix_pure (by rfl) ?_; go_big_quiet_step (fail); refine wpQuiet_nil ?_))
      refine Mix.wpMix_tail (by rfl) (fun K hK => ?_)
      go_wp2_with fail
      refine hK _ _ ?_
      clear hK K
      (refine Mix.wpMix_nil ?_; try simp only [Exit.then])
      clear x0 kc g6c g6f
      go_wp2_with fail
      go_roundw
      case rel => exact ⟨k + 1, some ⟨g', 0, none⟩, cap, by go_num, by omega, B6.out.set_ 2 _, by unfold Hid; rw [HE.out]; exact O6.out.move (w' := w6.setCell ⟨w4.heap.size, 2, none⟩ (.slice (some ⟨g', 0, none⟩) (k + 1) cap)) (fun ad' e => Below.heap_setCell _ _ _ _ (by have := (O6.out.block e).1; show ad'.block ≠ w4.heap.size; omega)), W6.out.setCell (by exact Nat.le_refl _) _, by simp; omega⟩
      case measure => simp [intOf]; omega
    · obtain rfl : k = m := by omega
      have HTT := Lib.hid (show t.take k = t from List.take_of_length_le (by rw [HM.out]; exact Nat.le_refl _))
      have hO9 := hO.out
      rw [HTT.out] at hO9
      have O9 := Lib.hid hO9
      have hz4r := hW.out.size
      have BW := Lib.hid (show Below w.heap.size w wr from B4'.out.trans (hW.out.mono B4'.out.size))
      have ZW := Lib.hid (Z4'.out.keep hW.out)
      have MW := Lib.hid (MP1.out.below ((E4.out.trans (hW.out.mono (by omega)))))
      have PW := Lib.hid (show PartP wr w4.heap.size v (na : Int) C k cc (cellsP t) from ⟨hB.out.cell 0, hB.out.cell 1, hB.out.cell 2, O9.out.wr.rdI⟩)
      have hcc := O9.out.cap
      have hcl : (cellsP t).length = k := by rw [cellsP, List.length_map, HM.out]
      obtain ⟨mb1, mb2⟩ := machB_bd HQM.out
      have r0 := ZW.out.cell 0; have r1 := ZW.out.cell 1; have r2 := ZW.out.cell 2
      have f0 := ZW.out.frozen 0; have f1 := ZW.out.frozen 1; have f2 := ZW.out.frozen 2
      simp at r0 r1 r2
      have hzW := BW.out.size
      have hwr4 : w.heap.size + 2 ≤ w4.heap.size := by omega
      clear hO9 hlt
      cases q3
      · have HG := Lib.hid (show (((0, 0, []), false) : PtD × Bool) = R by rw [← HR.out, sp_num HP1.out HP2.out (numV_no HV.out)]; rfl)
        go_wp2_with fail
        refine bodyPost_ret (v := .tuple #[.agg #[i64 0, i64 0, .slice none 0 0], .bool false]) (by simp [results, Tryz.results6, go_sem, r0, r1, r2]) rfl ?_
        rw [← HG.out]
        exact PpOut.bad (((BW.out.setCell (by exact Nat.le_succ _) _).setCell (by exact Nat.le_succ _) _).setCell (by exact Nat.le_succ _) _)
      obtain ⟨qp, hqp⟩ : ∃ q, partB sy st v (na : Int) (cellsP t) = q := ⟨_, rfl⟩
      have HQP := Lib.hid hqp
      have HSP := Lib.hid (show spR sy st rs s = if partB sy st v (na : Int) (cellsP t) = true ∧ pText v na (cellsP t) = s then some (v, (na : Int), cellsP t) else none by
        rw [sp_good HQM.out HP1.out HP2.out (numV_yes HV.out), HNA.out, HT.out])
      have HGD := Lib.hid (l26Good_c w.heap.size sy st A0 n0 c0 rs w4.heap.size v (na : Int) C k cc (cellsP t) qp wr MW.out PW.out mb1 mb2.1 (by omega) HQP.out)
      clear hqp
      cases qp
      · have HG := Lib.hid (show (((0, 0, []), false) : PtD × Bool) = R by rw [← HR.out, HSP.out, if_neg (fun h => by rw [HQP.out] at h; cases h.1)]; rfl)
        go_wp2_with (go_at_call 23; refine HGD.out.mono ?_; rintro e wq ⟨rfl, hq⟩; obtain ⟨nq2, rfl⟩ := hq)
        refine bodyPost_ret (v := .tuple #[.agg #[i64 0, i64 0, .slice none 0 0], .bool false]) (by simp [results, Tryz.results6, go_sem, r0, r1, r2]) rfl ?_
        rw [← HG.out]
        exact PpOut.bad ((((below_drewN BW.out nq2).setCell (by exact Nat.le_succ _) _).setCell (by exact Nat.le_succ _) _).setCell (by exact Nat.le_succ _) _)
      obtain ⟨pb1, pb2, pb3, pb4⟩ := partB_bd HQP.out mb1 mb2.1
      have hk60 : k ≤ 60 := by omega
      have hnk : na < k := by omega
      obtain ⟨txt, htx⟩ : ∃ u, pText v na (cellsP t) = u := ⟨_, rfl⟩
      have HTX := Lib.hid htx; have gtx := bs_toListS txt
      have HTE := Lib.hid (show ∀ w', Qt wr w' → Calls Tryz.prog 24 #[.pointer (some ⟨w4.heap.size, 0, none⟩)] w' fun e w'' => e = .returned (.string (bs txt)) ∧ Below w'.heap.size w' w'' from fun w' hq => by
        rw [← HTX.out]
        exact l26Text_c w4.heap.size v na C k cc (cellsP t) w' (PW.out.below (hq.below _)) hnk (by omega) hcc pb1 pb4)
      clear htx pb1 pb2 pb3 pb4 mb1 mb2 r0 r1 r2 f0 f1 f2
      by_cases htt : txt = s
      · have g9 : (txt == s) = true := by rw [beq_iff_eq]; exact htt
        have HG := Lib.hid (show ((v, (na : Int), cellsP t), true) = R by rw [← HR.out, HSP.out, if_pos ⟨HQP.out, HTX.out.trans htt⟩]; rfl)
        clear htt
        go_wp2_with fail
        refine HGD.out.mono ?_
        rintro e wq ⟨rfl, hq⟩
        have HQ := Lib.hid hq; clear hq
        go_wp2_with fail
        refine (HTE.out _ HQ.out).mono ?_
        rintro e wz ⟨rfl, hbz⟩
        have EZ := Lib.hid (show Below wr.heap.size wr wz from (HQ.out.below _).trans (hbz.mono (HQ.out.below wr.heap.size).size))
        have BZ := hB.out.keep EZ.out; have ZZ := ZW.out.keep EZ.out
        have B10 := Lib.hid (BW.out.trans (EZ.out.mono hzW))
        have s0 := BZ.cell 0; have s1 := BZ.cell 1; have s2 := BZ.cell 2
        have t0 := BZ.frozen 0; have t1 := BZ.frozen 1; have t2 := BZ.frozen 2
        simp at s0 s1 s2
        have r0 := ZZ.cell 0; have r1 := ZZ.cell 1; have r2 := ZZ.cell 2
        have f0 := ZZ.frozen 0; have f1 := ZZ.frozen 1; have f2 := ZZ.frozen 2
        simp at r0 r1 r2
        clear hbz BZ ZZ
        go_wp2_with fail
        refine bodyPost_ret (v := .tuple #[.agg #[i64 v, i64 (na : Int), .slice C k cc], .bool true]) (by simp [results, Tryz.results6, go_sem, r0, r1, r2]) rfl ?_
        rw [← HG.out]
        refine ⟨C, k, cc, rfl, ?_, by omega, ((B10.out.setCell (by exact Nat.le_succ _) _).setCell (by exact Nat.le_succ _) _).setCell (by exact Nat.le_succ _) _⟩
        have hlt : w.heap.size + 1 < wy.heap.size := by omega
        have hWZ := (WrS.one O9.out.wr).below EZ.out
        have h9 := (((hWZ.set_far (p := ⟨w.heap.size + 1, 0, none⟩) (.inl hlt) (i64 v)).set_far (p := ⟨w.heap.size + 1, 1, none⟩) (.inl hlt) (i64 (na : Int))).set_far (p := ⟨w.heap.size + 1, 2, none⟩) (.inl hlt) (.slice C k cc))
        have hsz : wr.heap.size ≤ (((wz.setCell ⟨w.heap.size + 1, 0, none⟩ (i64 v)).setCell ⟨w.heap.size + 1, 1, none⟩ (i64 (na : Int))).setCell ⟨w.heap.size + 1, 2, none⟩ (.slice C k cc)).heap.size := by simp; exact EZ.out.size
        exact h9.wider (by omega) hsz
      · have g9 : (txt == s) = false := by rw [beq_eq_false_iff_ne]; exact htt
        have HG := Lib.hid (show (((0, 0, []), false) : PtD × Bool) = R by rw [← HR.out, HSP.out, if_neg (fun h => htt (HTX.out.symm.trans h.2))]; rfl)
        clear htt
        go_wp2_with fail
        refine HGD.out.mono ?_
        rintro e wq ⟨rfl, hq⟩
        have HQ := Lib.hid hq; clear hq
        go_wp2_with fail
        refine (HTE.out _ HQ.out).mono ?_
        rintro e wz ⟨rfl, hbz⟩
        have EZ := Lib.hid (show Below wr.heap.size wr wz from (HQ.out.below _).trans (hbz.mono (HQ.out.below wr.heap.size).size))
        have ZZ := ZW.out.keep EZ.out
        have B10 := Lib.hid (BW.out.trans (EZ.out.mono hzW))
        have r0 := ZZ.cell 0; have r1 := ZZ.cell 1; have r2 := ZZ.cell 2
        have f0 := ZZ.frozen 0; have f1 := ZZ.frozen 1; have f2 := ZZ.frozen 2
        simp at r0 r1 r2
        clear hbz ZZ
        go_wp2_with fail
        refine bodyPost_ret (v := .tuple #[.agg #[i64 0, i64 0, .slice none 0 0], .bool false]) (by simp [results, Tryz.results6, go_sem, r0, r1, r2]) rfl ?_
        rw [← HG.out]
        exact PpOut.bad (((B10.out.setCell (by exact Nat.le_succ _) _).setCell (by exact Nat.le_succ _) _).setCell (by exact Nat.le_succ _) _)
theorem sReadPartial_c (sy st : Int) (A : Option Addr) (n c : Nat) (rs : List Rule3) (x : ByteArray) (RR : PtD × Bool) (hRR : ptV (spR sy st rs x.data.toList) = RR) (w : World) (h : RdS w [sgX enc3 3 A n rs]) (hn : n ≤ 1000000000) (hnx : x.size ≤ 1048576) :
    Calls Tryz.prog 6 #[.agg #[.int .i64 sy, .int .i64 st, .slice A n c], .string x] w (PpOut RR w) := by
  obtain ⟨s, rfl⟩ := bs_listP x
  rw [bs_dataS] at hRR
  exact sReadPartial_t sy st A n c rs s RR hRR w h hn (by rw [bs_size] at hnx; exact hnx)
theorem iReadPartial_c (sy st : Int) (A : Option Addr) (n c : Nat) (rs : List Rule3) (x : ByteArray) (RR : PtD × Bool) (hRR : ptV (spR sy st rs x.data.toList) = RR) (w : World) (h : RdS w [sgX enc3 3 A n rs]) (hn : n ≤ 1000000000) (hnx : x.size ≤ 1048576) (ht : LibS w) :
    Calls Tryz.prog 8 #[.agg #[.int .i64 sy, .int .i64 st, .slice A n c], .string x] w (PpOut RR w) := by
  obtain ⟨s, rfl⟩ := bs_listP x
  rw [bs_dataS] at hRR
  exact iReadPartial_t sy st A n c rs s RR hRR w h hn (by rw [bs_size] at hnx; exact hnx) ht
end Go.Proofs.YtdendllginlidaaGreatDoor
