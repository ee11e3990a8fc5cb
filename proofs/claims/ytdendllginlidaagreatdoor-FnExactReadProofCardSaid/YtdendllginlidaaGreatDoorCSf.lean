/-
  Reading, sixth part: the program's reader of a proof.
-/
import Derived.Test.YtdendllginlidaaGreatDoorCSe
namespace Go.Proofs.YtdendllginlidaaGreatDoor
open Go.RowKit

def namesB : Array Value := #[.string ⟨#[104, 97, 108, 116]⟩, .string ⟨#[99, 121, 99, 108, 101]⟩, .string ⟨#[115, 104, 105, 102, 116]⟩, .string ⟨#[98, 97, 99, 107, 119, 97, 114, 100]⟩, .string ⟨#[115, 101, 103, 109, 101, 110, 116]⟩, .string ⟨#[98, 111, 117, 110, 99, 101, 114]⟩, .string ⟨#[97, 117, 116, 111, 109, 97, 116, 111, 110]⟩, .string ⟨#[99, 111, 110, 116, 101, 120, 116, 115]⟩]
def fNz : MixA.Fact1 := fun _ v lo hi w => ∃ g', v = .slice (some ⟨g', 0, none⟩) 8 8 ∧ lo ≤ g' ∧ g' < hi ∧ Blk w g' 9 namesB
theorem fNz_st : MixA.Stab fNz := fun _ _ _ _ _ _ hb h => by obtain ⟨g, e, h1, h2, h3⟩ := h; exact ⟨g, e, h1, h2, h3.keep hb⟩
theorem KpB.setG {g : Nat} {w2 wr : World} {B : Option Addr} (h : KpB g w2 wr B) (o : Nat) (u : Value) : KpB g w2 (wr.setCell ⟨g, o, none⟩ u) B :=
  ⟨fun b hb hg => (Below.heap_setCell _ _ _ _ (by show b ≠ g; exact hg)).trans (h.cells b hb hg), by simpa using h.size, h.own⟩
set_option maxRecDepth 100000 in
theorem proofNames_c (w : World) : Calls Tryz.prog 40 #[] w fun e w' => e = .returned (.slice (some ⟨w.heap.size, 0, none⟩) 8 8) ∧ Below w.heap.size w w' ∧ Blk w' w.heap.size 9 namesB := by
  go_enter Tryz.func40, Tryz.ntmps40
  go_wp2_with fail
  go_ret
  exact ⟨rfl, below_size.alloc (Nat.le_refl _) _, Blk.new w _ _⟩
theorem namesIdx_c (g : Nat) (a : List UInt8) (kd : Int) (w : World) (h : Blk w g 9 namesB) (hk : ((kdN a : Nat) : Int) = kd) : Calls Tryz.prog 39 #[.slice (some ⟨g, 0, none⟩) 8 8, .string (bs a)] w fun e w' => e = .returned (.int .i64 (kd - 1)) ∧ w = w' := by
  refine (Tryz.slices_Index_string g 0 8 8 namesZ (bs a) w (by simp [namesZ]) (by omega) (fun j hj => ?_)).mono ?_
  · have hj8 : j < 8 := hj
    rw [Nat.zero_add, h.cell, namesZ_at hj8]
    have : j = 0 ∨ j = 1 ∨ j = 2 ∨ j = 3 ∨ j = 4 ∨ j = 5 ∨ j = 6 ∨ j = 7 := by omega
    rcases this with rfl | rfl | rfl | rfl | rfl | rfl | rfl | rfl <;> rfl
  · rintro e w' ⟨rfl, rfl⟩
    have h1 := idx_kdN a
    exact ⟨by rw [show Lib.idxOfS (namesZ.take 8) (bs a) = kd - 1 by omega], rfl⟩
theorem irR_three {s a b c : List UInt8} (h : spl 58 s = [a, b, c]) : irR s = if prR (kdN a) (nmP b) (wdP c) = s then some (kdN a, nmP b, wdP c) else none := by unfold irR; rw [h]
set_option maxHeartbeats 8000000 in
set_option maxRecDepth 100000 in
theorem iReadProof_t (s : List UInt8) (R : PfD × Bool) (hR : prfV (srR s) = R) (w : World) (hs : s.length ≤ 1048576) (hL : LibS w) :
    Calls Tryz.prog 15 #[.string (bs s)] w (PfOut R w) := by
  have gss := bs_toListS s
  rw [← ir_eq] at hR
  have HR := Lib.hid hR; have HLS := Lib.hid hL
  obtain ⟨w1, hw1⟩ : ∃ w1, w.alloc (.cells #[i64 0, .slice none 0 0, .slice none 0 0] 42) = w1 := ⟨_, rfl⟩
  have Z1 := Lib.hid (show Blk w1 w.heap.size 42 #[i64 0, .slice none 0 0, .slice none 0 0] by rw [← hw1]; exact Blk.new _ _ _)
  have B1 := Lib.hid (show Below w.heap.size w w1 by rw [← hw1]; exact below_size.alloc (Nat.le_refl _) _)
  have hz1 : w1.heap.size = w.heap.size + 1 := by rw [← hw1]; simp
  obtain ⟨parts, hp⟩ : ∃ p, spl 58 s = p := ⟨_, rfl⟩
  obtain ⟨m, hm⟩ : ∃ m, parts.length = m := ⟨_, rfl⟩
  have HPL := Lib.hid (show ∀ x ∈ parts, x.length ≤ 1048576 from fun x hx => by have := spl_piece 58 s x (by rw [hp]; exact hx); omega)
  have HSP := Lib.hid (show Calls Tryz.prog 38 #[.string (bs s), .string ⟨#[58]⟩] w1 (StrOut parts m w1) by
    have := Split_c s 58 m (by rw [hp, hm]) w1 (hL.below B1.out) hs
    rw [hp] at this; exact this)
  have HP := Lib.hid hp; have HM := Lib.hid hm
  have hmb : m ≤ 1048577 := by rw [← hm, ← hp, spl_len]; have := List.count_le_length (a := 58) (l := s); omega
  clear hp hm hR hs hL
  go_enter Tryz.func15, Tryz.ntmps15
  go_wp2_with fail
  refine HSP.out.mono ?_
  rintro e w2 ⟨A, c, rfl, hA, hb2⟩
  have PA := Lib.hid hA; have E2 := Lib.hid hb2
  have B2 := Lib.hid (show Below w.heap.size w w2 from B1.out.trans (hb2.mono (by omega)))
  have Z2 := Lib.hid (Z1.out.keep hb2)
  have hz2 := hb2.size
  clear hA hb2 hw1 HSP
  by_cases h3 : m = 3
  rotate_left
  · have HG := Lib.hid (show (((0, [], []), false) : PfD × Bool) = R by rw [← HR.out, ir_eq, srR_len (by rw [HP.out, HM.out]; exact h3)]; rfl)
    have g3 : ((m : Int) != 3) = true := by simp; omega
    have r0 := Z2.out.cell 0; have r1 := Z2.out.cell 1; have r2 := Z2.out.cell 2
    have f0 := Z2.out.frozen 0; have f1 := Z2.out.frozen 1; have f2 := Z2.out.frozen 2
    simp at r0 r1 r2
    clear h3
    go_wp2_with fail
    refine bodyPost_ret (v := .tuple #[.agg #[i64 0, .slice none 0 0, .slice none 0 0], .bool false]) (by simp [results, Tryz.results15, go_sem, r0, r1, r2]) rfl ?_
    rw [← HG.out]
    exact PfOut.bad (((B2.out.setCell (by exact Nat.le_refl _) _).setCell (by exact Nat.le_refl _) _).setCell (by exact Nat.le_refl _) _)
  subst h3
  obtain ⟨a, b, d, hpd⟩ := three_of HM.out
  subst hpd
  have HIR := Lib.hid (irR_three HP.out)
  have HSNE := Lib.hid (show s ≠ [] from fun e => by have := spl_three HP.out; rw [e] at this; exact absurd (congrArg List.length this) (by simp))
  obtain ⟨ad, v0, rfl, hblk, hlt, _, hv0, hc0, _⟩ := PA.out.wr.at_ (k := 0) (by omega)
  obtain ⟨_, v1, e1, _, _, _, hv1, hc1, _⟩ := PA.out.wr.at_ (k := 1) (by omega)
  obtain ⟨_, v2, e2, _, _, _, hv2, hc2, _⟩ := PA.out.wr.at_ (k := 2) (by omega)
  injection e1 with e1; subst e1
  injection e2 with e2; subst e2
  simp only [List.map_cons, List.map_nil, List.getElem?_cons_zero, List.getElem?_cons_succ, Option.some.injEq] at hv0 hv1 hv2
  subst hv0 hv1 hv2
  have gadd : ad.add 0 = ad := by simp [Addr.add]
  rw [gadd] at hc0
  have C0 := Lib.hid hc0; have C1 := Lib.hid (show w2.cell? ⟨ad.block, ad.off + 1, none⟩ = some (.string (bs b)) from hc1); have C2 := Lib.hid (show w2.cell? ⟨ad.block, ad.off + 2, none⟩ = some (.string (bs d)) from hc2)
  have HB1 := Lib.hid (HPL.out b (by simp)); have HD1 := Lib.hid (HPL.out d (by simp))
  have hadb : ad.block < w2.heap.size := hlt
  obtain ⟨kd, hkd⟩ : ∃ kd : Int, ((kdN a : Nat) : Int) = kd := ⟨_, rfl⟩
  have HKD := Lib.hid hkd
  have hkb : 0 ≤ kd ∧ kd ≤ 8 := by
    rcases kdU_spec a 8 with ⟨h1, _⟩ | ⟨_, h1, _⟩
    · have : kdN a = 0 := h1
      omega
    · have : kdN a ≤ 8 := h1
      omega
  have v1 : IntKind.i64.wrap (kd - 1 + 1) = kd := by rw [IntWalk.i64_in _ (by omega)]; omega
  have v2 : IntKind.i64.wrap kd = kd := IntWalk.i64_in _ (by omega)
  clear hc0 hc1 hc2 gadd hlt PA HPL HM hmb hkd
  have EW : ∀ w1 : World, Below w2.drew.heap.size w2.drew w1 → Below w2.heap.size w2 w1 := fun w1 hb => below_of_drew hb
  go_wp2_with fail
  -- region A
  refine MixA.wp_facts 8 [16, 17, 18, 19, 20, 21, 22, 5] [[], [], [1], [2], [0, 3], [4], [5], []]
    [fNz,
     MixA.fP (.slice (some ad) 3 c),
     MixA.fP (.pointer (some ad)),
     MixA.fP (.string (bs a)),
     MixA.fP (.int .i64 (kd - 1)),
     MixA.fP (.int .i64 kd),
     MixA.fP (.agg #[.int .i64 kd, .slice none 0 0, .slice none 0 0]),
     MixA.fB 42 #[i64 0, .slice none 0 0, .slice none 0 0]]
    (by kernel_rfl) (by kernel_rfl) (fun t ht => Nat.lt_of_lt_of_eq (show t < 71 by revert t; decide) rfl) ?_ ?_
  · intro f hf
    simp only [List.mem_cons, List.not_mem_nil, or_false] at hf
    rcases hf with rfl | rfl | rfl | rfl | rfl | rfl | rfl | rfl
    · exact fNz_st
    · exact MixA.fP_st _
    · exact MixA.fP_st _
    · exact MixA.fP_st _
    · exact MixA.fP_st _
    · exact MixA.fP_st _
    · exact MixA.fP_st _
    · exact MixA.fB_st _ _
  simp only [MixA.EachF]
  refine ⟨?_, ?_, ?_, ?_, ?_, ?_, ?_, ?_, ?_⟩
  · intro a1 w1 hf
    refine MixA.hop ⟨#[undef, undef, undef, undef, undef, undef, undef, undef, undef, undef, undef, undef, undef, undef, undef, undef, undef], []⟩ (by intro cs b e; cases e) rfl (show 16 < 17 by decide) ?_ ?_
    · intro x hx
      simp [Op.operands, Call.operands] at hx
      subst hx
      · rfl
    go_wp2_with fail
    refine (proofNames_c _).mono ?_
    rintro e w2 ⟨rfl, hb2, hB2⟩
    have B2 := Lib.hid hb2; have N2 := Lib.hid hB2; have L2 := hB2.lt
    clear hb2 hB2
    go_wp2_with fail
    first | exact ⟨B2.out, w1.heap.size, rfl, Nat.le_refl _, L2, N2.out⟩ | exact ⟨_, rfl, B2.out, w1.heap.size, rfl, Nat.le_refl _, L2, N2.out⟩
  · intro a1 w1 hf
    refine MixA.hop ⟨#[undef, undef, undef, undef, (.slice (some ad) 3 c), undef, undef, undef, undef, undef, undef, undef, undef, undef, undef, undef, undef, undef], []⟩ (by intro cs b e; cases e) rfl (show 17 < 18 by decide) ?_ ?_
    · intro x hx
      simp [Op.operands] at hx
      rcases hx with rfl
      · exact (hf.was (t := 4) (by decide) rfl).trans rfl
    go_wp2_with fail
    first | exact ⟨below_size, rfl⟩ | exact ⟨_, rfl, below_size, rfl⟩
  · intro a1 w1 hf
    refine MixA.hop ⟨#[undef, undef, undef, undef, undef, undef, undef, undef, undef, undef, undef, undef, undef, undef, undef, undef, undef, (.slice (some ad) 3 c), undef], []⟩ (by intro cs b e; cases e) rfl (show 18 < 19 by decide) ?_ ?_
    · intro x hx
      simp [Op.operands] at hx
      rcases hx with rfl | rfl
      · exact (hf.pure (j := 1) (by decide) rfl).trans rfl
      · rfl
    go_wp2_with fail
    first | exact ⟨below_size, rfl⟩ | exact ⟨_, rfl, below_size, rfl⟩
  · intro a1 w1 hf
    have E1 := EW w1 hf.below
    have hc0 : w1.cell? ad = some (.string (bs a)) := keepc E1 C0.out
    clear E1
    refine MixA.hop ⟨#[undef, undef, undef, undef, undef, undef, undef, undef, undef, undef, undef, undef, undef, undef, undef, undef, undef, undef, (.pointer (some ad)), undef], []⟩ (by intro cs b e; cases e) rfl (show 19 < 20 by decide) ?_ ?_
    · intro x hx
      simp [Op.operands] at hx
      rcases hx with rfl
      · exact (hf.pure (j := 2) (by decide) rfl).trans rfl
    go_wp2_with fail
    first | exact ⟨below_size, rfl⟩ | exact ⟨_, rfl, below_size, rfl⟩
  · intro a1 w1 hf
    obtain ⟨R, hR, _⟩ := hf.facts
    obtain ⟨g16, hv16, _, _, h16⟩ : ∃ g', MixA.val a1 16 = .slice (some ⟨g', 0, none⟩) 8 8 ∧ (R 0).1 ≤ g' ∧ g' < (R 0).2 ∧ Blk w1 g' 9 namesB := (hR 0 (by decide)).1
    have hv19 : MixA.val a1 19 = .string (bs a) := (hR 3 (by decide)).1
    have HI := Lib.hid (namesIdx_c g16 a kd w1 h16 HKD.out)
    clear hR h16
    refine MixA.hop ⟨#[undef, undef, undef, undef, undef, undef, undef, undef, undef, undef, undef, undef, undef, undef, undef, undef, (.slice (some ⟨g16, 0, none⟩) 8 8), undef, undef, (.string (bs a)), undef], []⟩ (by intro cs b e; cases e) rfl (show 20 < 21 by decide) ?_ ?_
    · intro x hx
      simp [Op.operands, Call.operands] at hx
      rcases hx with rfl | rfl | rfl
      · rfl
      · exact hv16.trans rfl
      · exact hv19.trans rfl
    go_wp2_with fail
    refine HI.out.mono ?_
    rintro e w' ⟨rfl, rfl⟩
    go_wp2_with fail
    first | exact ⟨below_size, rfl⟩ | exact ⟨_, rfl, below_size, rfl⟩
  · intro a1 w1 hf
    obtain ⟨R, hR, _⟩ := hf.facts
    have hv20 : MixA.val a1 20 = .int .i64 (kd - 1) := (hR 4 (by decide)).1
    clear hR
    refine MixA.hop ⟨#[undef, undef, undef, undef, undef, undef, undef, undef, undef, undef, undef, undef, undef, undef, undef, undef, undef, undef, undef, undef, (.int .i64 (kd - 1)), undef], []⟩ (by intro cs b e; cases e) rfl (show 21 < 22 by decide) ?_ ?_
    · intro x hx
      simp [Op.operands] at hx
      rcases hx with rfl | rfl
      · exact hv20.trans rfl
      · rfl
    go_wp2_with fail
    first | exact ⟨below_size, rfl⟩ | exact ⟨_, rfl, below_size, rfl⟩
  · intro a1 w1 hf
    obtain ⟨R, hR, _⟩ := hf.facts
    have hv21 : MixA.val a1 21 = .int .i64 kd := (hR 5 (by decide)).1
    clear hR
    refine MixA.hop ⟨#[undef, undef, undef, undef, undef, undef, undef, undef, undef, undef, undef, undef, undef, undef, undef, undef, undef, undef, undef, undef, undef, (.int .i64 kd), undef], []⟩ (by intro cs b e; cases e) rfl (show 22 < 23 by decide) ?_ ?_
    · intro x hx
      simp [Op.operands] at hx
      rcases hx with rfl
      · exact hv21.trans rfl
    go_wp2_with fail
    first | exact ⟨below_size, rfl⟩ | exact ⟨_, rfl, below_size, rfl⟩
  · intro a1 w1 hf
    refine MixA.hop ⟨#[undef, undef, undef, undef, undef, undef], []⟩ (by intro cs b e; cases e) rfl (show 5 < 6 by decide) ?_ ?_
    · intro x hx
      simp [Op.operands] at hx
    go_wp2_with fail
    first | exact ⟨below_size.alloc (Nat.le_refl _) _, w1.heap.size, rfl, Nat.le_refl _, by simp, Blk.new w1 _ _⟩ | exact ⟨_, rfl, below_size.alloc (Nat.le_refl _) _, w1.heap.size, rfl, Nat.le_refl _, by simp, Blk.new w1 _ _⟩
  · intro a1 w1 hf
    obtain ⟨RF, hR, hd⟩ := hf.facts
    have hv22 : MixA.val a1 22 = .agg #[.int .i64 kd, .slice none 0 0, .slice none 0 0] := (hR 6 (by decide)).1
    obtain ⟨gp, hv5, l5, r5, h5⟩ : ∃ g', MixA.val a1 5 = .pointer (some ⟨g', 0, none⟩) ∧ (RF 7).1 ≤ g' ∧ g' < (RF 7).2 ∧ Blk w1 g' 42 #[i64 0, .slice none 0 0, .slice none 0 0] := (hR 7 (by decide)).1
    have b5 := (hR 7 (by decide)).2
    have hgp : w2.heap.size ≤ gp := Nat.le_trans b5.1 l5
    have m0 := h5.cell 0; have m1 := h5.cell 1; have m2 := h5.cell 2
    have f0 := h5.frozen 0; have f1 := h5.frozen 1; have f2 := h5.frozen 2
    simp at m0 m1 m2
    have E1 := Lib.hid (below_of_drew hf.below)
    obtain ⟨w3, hw3⟩ : ∃ w3, ((w1.setCell ⟨gp, 0, none⟩ (i64 kd)).setCell ⟨gp, 1, none⟩ (.slice none 0 0)).setCell ⟨gp, 2, none⟩ (.slice none 0 0) = w3 := ⟨_, rfl⟩
    have E3 := Lib.hid (show Below w2.heap.size w2 w3 by rw [← hw3]; exact ((E1.out.setCell (by exact hgp) _).setCell (by exact hgp) _).setCell (by exact hgp) _)
    have BP := Lib.hid (show Blk w3 gp 42 #[i64 kd, .slice none 0 0, .slice none 0 0] by rw [← hw3]; exact ((h5.set_ 0 _).set_ 1 _).set_ 2 _)
    have Z3 := Lib.hid (Z2.out.keep E3.out)
    have B3 := Lib.hid (show Below w.heap.size w w3 from B2.out.trans (E3.out.mono (by omega)))
    have c1 : w3.cell? ⟨ad.block, ad.off + 1, none⟩ = some (.string (bs b)) := keepc E3.out C1.out
    have c2 : w3.cell? ⟨ad.block, ad.off + 2, none⟩ = some (.string (bs d)) := keepc E3.out C2.out
    have hz3 := E3.out.size
    have hgl := BP.out.lt
    have LS3 := Lib.hid (HLS.out.below B3.out)
    rw [hf.act]
    clear hR hd h5 b5 l5 r5 EW
    simp only [List.foldl_cons, List.foldl_nil, hv5, hv22]
    clear hv5 hv22 hf
    simp only [Act.put, List.setIfInBounds_toArray, List.set_cons_succ, List.set_cons_zero]
  -- behind the region A
    have gb := bs_toListS b
    have gd := bs_toListS d
    by_cases h45 : b = [45]
    · have g4 : (b == ([45] : List UInt8)) = true := by rw [beq_iff_eq]; exact h45
      have HNM := Lib.hid (show nmP b = [] by rw [h45]; rfl)
      have BP7 := BP; have BW7 := B3; have ZW7 := Z3; have c27 := c2
      have W7 := Lib.hid (show Wr w3 w3.heap.size w3.heap.size none 0 (([] : List Int).map i64) from Wr.nil)
      have hz7 : w3.heap.size ≤ w3.heap.size := Nat.le_refl _
      clear h45
      by_cases hd0 : d = []
      · have g5 : d.isEmpty = true := by rw [hd0]; rfl
        have HWD := Lib.hid (show ([] : List It).map It.xs = wdP d by rw [hd0]; rfl)
        have HTN := Lib.hid (show ∀ t ∈ ([] : List It), t.n ≤ 400 from fun t ht => by cases ht)
        have WP := Lib.hid (show WrS w3 w3.heap.size w3.heap.size ([sgI none 0 ([] : List Int)] ++ sgII none 0 []) from WrS.append (mid := w3.heap.size) (WrS.one W7.out) (OwnS.nil (B := w3.heap.size) (e := 26) (size := 1) Own.nil).wrS hz7 (Nat.le_refl _))
        have x0 := BP7.out.cell 0; have x1 := BP7.out.cell 1; have x2 := BP7.out.cell 2
        have y0 := BP7.out.frozen 0; have y1 := BP7.out.frozen 1; have y2 := BP7.out.frozen 2
        simp at x0 x1 x2
        clear hd0
        obtain ⟨q, hq⟩ : ∃ q, proofB kd ([] : List Int) (([] : List It).map It.xs) = q := ⟨_, rfl⟩
        obtain ⟨txt, htx⟩ : ∃ t, prR kd ([] : List Int) (([] : List It).map It.xs) = t := ⟨_, rfl⟩
        have HQ := Lib.hid hq; have HTX := Lib.hid htx; have gtx := bs_toListS txt
        have HI2 := Lib.hid (show irR s = if txt = s then some (kdN a, ([] : List Int), ([] : List It).map It.xs) else none by rw [HIR.out, HKD.out, HNM.out, ← HWD.out, HTX.out])
        have HV := Lib.hid (iValidProof_c kd none 0 0 ([] : List Int) none 0 0 ([] : List It) w3 WP.out.rd ⟨by omega, by omega⟩ (fun t ht => by have := HTN.out t ht; omega))
        have HPT := Lib.hid (fun w' (hb : Below w3.heap.size w3 w') => iProofText_c kd none 0 0 ([] : List Int) none 0 0 ([] : List It) w' (WP.out.below hb).rd ⟨by omega, by omega⟩ (fun t ht => by have := HTN.out t ht; omega) (HLS.out.below (BW7.out.trans (hb.mono BW7.out.size))).tab)
        rw [HQ.out] at HV
        rw [HTX.out] at HPT
        have hzW := BW7.out.size
        clear hq htx
        cases q
        · have HG := Lib.hid (show (((0, [], []), false) : PfD × Bool) = R by rw [← HR.out, HI2.out, if_neg (by rw [← HTX.out, prR_no HQ.out]; exact fun e => HSNE.out e.symm)]; rfl)
          go_wp2_with fail
          refine HV.out.mono ?_
          rintro e w9 ⟨rfl, hb9⟩
          have Z9 := ZW7.out.keep hb9; have B9 := Lib.hid (BW7.out.trans (hb9.mono hzW))
          have r0 := Z9.cell 0; have r1 := Z9.cell 1; have r2 := Z9.cell 2
          have f0 := Z9.frozen 0; have f1 := Z9.frozen 1; have f2 := Z9.frozen 2
          simp at r0 r1 r2
          clear hb9 Z9
          go_wp2_with fail
          refine bodyPost_ret (v := .tuple #[.agg #[i64 0, .slice none 0 0, .slice none 0 0], .bool false]) (by simp [results, Tryz.results15, go_sem, r0, r1, r2]) rfl ?_
          rw [← HG.out]
          exact PfOut.bad (((B9.out.setCell (by exact Nat.le_refl _) _).setCell (by exact Nat.le_refl _) _).setCell (by exact Nat.le_refl _) _)
        by_cases htt : txt = s
        · have g9 : (txt == s) = true := by rw [beq_iff_eq]; exact htt
          obtain ⟨y1, y2, y3, _, _⟩ := proofB_all HQ.out
          have hl1 : 0 ≤ 300 := by have h : ([] : List Int).length = 0 := RdI.len WP.out.rd.left.head; omega
          have hl2 : 0 ≤ 300 ∧ (([] : List It).length ≤ 300) := by have h : ([] : List It).length = 0 := RdII.len WP.out.rd.right; rw [List.length_map] at y3; omega
          have hl3 := sum_words HTN.out
          have HG := Lib.hid (show ((kd, ([] : List Int), ([] : List It).map It.xs), true) = R by rw [← HR.out, HI2.out, if_pos htt, ← HKD.out]; rfl)
          clear htt y1 y2 y3
          go_wp2_with fail
          refine HV.out.mono ?_
          rintro e w8 ⟨rfl, hb8⟩
          have P8 := BP7.out.keep hb8; have H8 := Lib.hid hb8
          have x0 := P8.cell 0; have x1 := P8.cell 1; have x2 := P8.cell 2
          have y0 := P8.frozen 0; have y1 := P8.frozen 1; have y2 := P8.frozen 2
          simp at x0 x1 x2
          clear hb8 P8
          go_wp2_with fail
          refine (HPT.out _ H8.out).mono ?_
          rintro e w9 ⟨rfl, hb9⟩
          have E9 := Lib.hid (H8.out.trans (hb9.mono H8.out.size)); have P9 := BP7.out.keep E9.out; have Z9 := ZW7.out.keep E9.out; have B9 := Lib.hid (BW7.out.trans (E9.out.mono hzW))
          have m0 := P9.cell 0; have m1 := P9.cell 1; have m2 := P9.cell 2
          have k0 := P9.frozen 0; have k1 := P9.frozen 1; have k2 := P9.frozen 2
          simp at m0 m1 m2
          have r0 := Z9.cell 0; have r1 := Z9.cell 1; have r2 := Z9.cell 2
          have f0 := Z9.frozen 0; have f1 := Z9.frozen 1; have f2 := Z9.frozen 2
          simp at r0 r1 r2
          clear hb9 P9 Z9
          go_wp2_with fail
          refine bodyPost_ret (v := .tuple #[.agg #[i64 kd, .slice none 0 0, .slice none 0 0], .bool true]) (by simp [results, Tryz.results15, go_sem, r0, r1, r2]) rfl ?_
          rw [← HG.out]
          refine ⟨none, 0, 0, none, 0, 0, ([] : List It), rfl, ?_, ⟨by omega, by omega, fun t ht => by have := HTN.out t ht; omega, by omega, rfl⟩, ((B9.out.setCell (by exact Nat.le_refl _) _).setCell (by exact Nat.le_refl _) _).setCell (by exact Nat.le_refl _) _⟩
          have hS : WrS w9 w3.heap.size w9.heap.size ([sgI none 0 ([] : List Int)] ++ sgII none 0 ([] : List It)) := (WP.out.below E9.out).wider (Nat.le_refl _) E9.out.size
          have hw39 : w.heap.size < w3.heap.size := Z3.out.lt
          have h9 := (((hS.set_far (p := ⟨w.heap.size, 0, none⟩) (.inl hw39) (i64 kd)).set_far (p := ⟨w.heap.size, 1, none⟩) (.inl hw39) (.slice none 0 0)).set_far (p := ⟨w.heap.size, 2, none⟩) (.inl hw39) (.slice none 0 0)).wider (lo' := w.heap.size) (by omega) (show w9.heap.size ≤ _ from Nat.le_refl _)
          simpa using h9
        · have g9 : (txt == s) = false := by rw [beq_eq_false_iff_ne]; exact htt
          have HG := Lib.hid (show (((0, [], []), false) : PfD × Bool) = R by rw [← HR.out, HI2.out, if_neg htt]; rfl)
          clear htt
          go_wp2_with fail
          refine HV.out.mono ?_
          rintro e w8 ⟨rfl, hb8⟩
          have P8 := BP7.out.keep hb8; have H8 := Lib.hid hb8
          have x0 := P8.cell 0; have x1 := P8.cell 1; have x2 := P8.cell 2
          have y0 := P8.frozen 0; have y1 := P8.frozen 1; have y2 := P8.frozen 2
          simp at x0 x1 x2
          clear hb8 P8
          go_wp2_with fail
          refine (HPT.out _ H8.out).mono ?_
          rintro e w9 ⟨rfl, hb9⟩
          have E9 := Lib.hid (H8.out.trans (hb9.mono H8.out.size)); have Z9 := ZW7.out.keep E9.out; have B9 := Lib.hid (BW7.out.trans (E9.out.mono hzW))
          have r0 := Z9.cell 0; have r1 := Z9.cell 1; have r2 := Z9.cell 2
          have f0 := Z9.frozen 0; have f1 := Z9.frozen 1; have f2 := Z9.frozen 2
          simp at r0 r1 r2
          clear hb9 Z9
          go_wp2_with fail
          refine bodyPost_ret (v := .tuple #[.agg #[i64 0, .slice none 0 0, .slice none 0 0], .bool false]) (by simp [results, Tryz.results15, go_sem, r0, r1, r2]) rfl ?_
          rw [← HG.out]
          exact PfOut.bad (((B9.out.setCell (by exact Nat.le_refl _) _).setCell (by exact Nat.le_refl _) _).setCell (by exact Nat.le_refl _) _)
      have g5 : d.isEmpty = false := by cases d with | nil => exact absurd rfl hd0 | cons x l => rfl
      obtain ⟨pd, hpd⟩ : ∃ p, spl 44 d = p := ⟨_, rfl⟩
      obtain ⟨m, hm⟩ : ∃ m, pd.length = m := ⟨_, rfl⟩
      have HWP := Lib.hid (show wdP d = pd.map fun x => (wdR1 x).getD [] by rw [wdP, if_neg hd0, hpd])
      have HPL := Lib.hid (show ∀ x ∈ pd, x.length ≤ 1048576 from fun x hx => by have h1 := spl_piece 44 d x (by rw [hpd]; exact hx); have h2 := HD1.out; omega)
      have HSP := Lib.hid (show Calls Tryz.prog 38 #[.string (bs d), .string ⟨#[44]⟩] w3 (StrOut pd m w3) by
        have := Split_c d 44 m (by rw [hpd, hm]) w3 (HLS.out.below BW7.out) HD1.out
        rw [hpd] at this; exact this)
      have hmb : m ≤ 1048577 := by rw [← hm, ← hpd, spl_len]; have h1 := List.count_le_length (a := 44) (l := d); have h2 := HD1.out; omega
      have HM := Lib.hid hm
      have hg7 : gp < w3.heap.size := BP7.out.lt
      clear hd0 hpd hm
      have x0 := BP7.out.cell 0; have x1 := BP7.out.cell 1; have x2 := BP7.out.cell 2
      have y0 := BP7.out.frozen 0; have y1 := BP7.out.frozen 1; have y2 := BP7.out.frozen 2
      simp at x0 x1 x2
      go_wp2_with fail
      refine HSP.out.mono ?_
      rintro e w8 ⟨AP, cP, rfl, hA, hb8⟩
      have PA := Lib.hid hA; have E8 := Lib.hid hb8; have hz8 := hb8.size
      have B8 := Lib.hid (BW7.out.trans (hb8.mono BW7.out.size)); have BP8 := Lib.hid (BP7.out.keep hb8)
      clear hA hb8 x0 x1 x2 y0 y1 y2 HSP c27
      go_wp2_with fail
      go_loopw [44] (fun iv wr => ∃ (i : Nat) (C : Option Addr) (cc : Nat) (its : List It), iv = .int .i64 i ∧ i ≤ m ∧ Hid (its.map It.xs = (pd.take i).map fun x => (wdR1 x).getD []) ∧ Hid (Blk wr gp 42 #[i64 kd, .slice none 0 0, .slice C i cc]) ∧ Hid (OwnS wr w8.heap.size 26 1 C i cc (its.map hdI) (its.map bodyI)) ∧ KpB gp w8 wr C ∧ Below w.heap.size w wr ∧ Hid (∀ t ∈ its, t.n ≤ 400)) (fun iv _ => m - (intOf iv).toNat)
      case atStart => exact ⟨0, none, 0, [], rfl, by omega, rfl, BP8.out, OwnS.nil Own.nil, KpB.start (fun ad e => by cases e), B8.out, (fun t ht => by cases ht)⟩
      case round =>
        obtain ⟨i, C, cc, its, rfl, hi, hit, hB, hO, hkp, hb, htn⟩ := hrel
        have HB := Lib.hid hb; have HK := Lib.hid hkp; have HIT := Lib.hid hit.out; have HTN := Lib.hid htn.out
        have hwz := hb.size; have hkz := hkp.size
        have hC : ∀ ad, C = some ad → w8.heap.size ≤ ad.block := fun ad e => (hO.out.own.block e).1
        have HC2 := Lib.hid hC
        by_cases hlt : i < m
        · obtain ⟨adx, x, rfl, hx, hc⟩ := RdOwn.at_ PA.out (g := gp) hg7 hkp hlt
          obtain ⟨⟨xs, q⟩, hv⟩ : ∃ r, numsV (wdR1 x) = r := ⟨_, rfl⟩
          have HC := Lib.hid (ReadWord_c x _ hv wr (HPL.out x (List.mem_of_getElem? hx)))
          have hxs : (wdR1 x).getD [] = xs := by cases h : wdR1 x with | none => (rw [h] at hv; injection hv with hv _) | some y => (rw [h] at hv; injection hv with hv _)
          have hxl : xs.length ≤ 400 := by rw [← hxs]; cases h : wdR1 x with | none => simp | some z => exact (wd_some h).2.2
          have HX := Lib.hid (show (pd.take (i + 1)).map (fun x => (wdR1 x).getD []) = ((pd.take i).map fun x => (wdR1 x).getD []) ++ [xs] by rw [take_at hx, List.map_append, ← hxs]; rfl)
          clear hx hb hkp hv hxs hC hit htn
          go_wp2_with fail
          refine HC.out.mono ?_
          rintro e w4 ⟨A', n', c', rfl, ho4, hb4⟩
          have P4 := Lib.hid ho4; have C4 := Lib.hid hb4; have B4 := Lib.hid (HB.out.trans (hb4.mono hwz)); have z4 := hb4.size
          have hnx : xs.length = n' := by have h1 := ho4.1; rw [List.length_map] at h1; have h2 : ((xs, q).1).length = xs.length := rfl; omega
          have HNX := Lib.hid hnx
          have O4 := Lib.hid (hO.out.keep C4.out)
          have HIT4 := Lib.hid (show (its ++ [(⟨A', n', c', xs⟩ : It)]).map It.xs = (pd.take (i + 1)).map fun x => (wdR1 x).getD [] by rw [HX.out, List.map_append, HIT.out]; rfl)
          have W5 := Lib.hid (show Wr (w4.alloc (.cells #[.slice A' n' c'] 26)) wr.heap.size (w4.alloc (.cells #[.slice A' n' c'] 26)).heap.size A' n' (xs.map i64) from (P4.out.wr.below (below_size.alloc (Nat.le_refl _) _)).wider (Nat.le_refl _) (by simp))
          have B5 := Lib.hid (show Below wr.heap.size wr (w4.alloc (.cells #[.slice A' n' c'] 26)) from C4.out.alloc z4 _)
          have BP4 := Lib.hid (hB.out.keep hb4)
          have BP5 := Lib.hid (show Blk (w4.alloc (.cells #[.slice A' n' c'] 26)) gp 42 #[i64 kd, .slice none 0 0, .slice C i cc] from BP4.out.keep (below_size.alloc (Nat.le_refl _) _))
          have hg4 := BP4.out.lt
          have x0 := BP4.out.cell 0; have x1 := BP4.out.cell 1; have x2 := BP4.out.cell 2
          have y0 := BP4.out.frozen 0; have y1 := BP4.out.frozen 1; have y2 := BP4.out.frozen 2
          simp at x0 x1 x2
          clear ho4 hb4 hnx
          go_wp2_with (at_builtin; refine wp_app1 (by rfl) _ _ 40 26 (.slice none 0 0) 24 (by rfl) Tryz.underlying40 info_sI rfl w8.heap.size C i cc (its.map hdI) (by rfl) (by exact (O4.out.own.alloc _)) w4.heap.size (.slice A' n' c') (by rfl) (by exact new_cell _ _ _ 0) rfl (by omega) (by omega) (by simp; omega) ?_; intro g' cap w6 own6 hb6 hk6 hg6 hz6; have O6 := Lib.hid (OwnS.push hO.out (by omega) B5.out (s := ⟨A', n', xs.map i64⟩) W5.out own6 hk6 hg6 hz6); have K6 := Lib.hid (KpB.push (B' := some ⟨g', 0, none⟩) HK.out C4.out hk6 hz6 (hg6.elim (fun e => .inl e.symm) (fun e => .inr fun ad h => by injection h with h; subst h; exact Nat.le_of_eq e.symm))); have E6 := Lib.hid ((B4.out.alloc (by omega) _).trans (hb6.mono (by omega))); have BP6 := Lib.hid (show Blk w6 gp 42 #[i64 kd, .slice none 0 0, .slice C i cc] from BP5.out.of_block (hk6 gp (by simp; omega) (fun ad e => by have := HC2.out ad e; omega))); have u0 := BP6.out.cell 0; have u1 := BP6.out.cell 1; have u2 := BP6.out.cell 2; have t0 := BP6.out.frozen 0; have t1 := BP6.out.frozen 1; have t2 := BP6.out.frozen 2; simp at u0 u1 u2; clear own6 hb6 hk6 hg6 hz6)
          go_roundw
          case rel => exact ⟨i + 1, some ⟨g', 0, none⟩, cap, its ++ [⟨A', n', c', xs⟩], by go_num, by omega, HIT4, BP6.out.set_ 2 _, by unfold Hid; rw [List.map_append, List.map_append]; exact O6.out.move (fun b hb1 hb2 => Below.heap_setCell _ _ _ _ (by show b ≠ gp; omega)) (by simp), K6.out.setG _ _, E6.out.setCell (by show w.heap.size ≤ gp; omega) _, fun t ht => by rcases List.mem_append.1 ht with h | h; exact HTN.out t h; (rw [List.mem_singleton] at h; subst h; show n' ≤ 400; have := HNX.out; omega)⟩
          case measure => simp [intOf]; omega
        · obtain rfl : i = m := by omega
          have HWD := Lib.hid (show its.map It.xs = wdP d by rw [HIT.out, HWP.out, List.take_of_length_le (by rw [HM.out]; exact Nat.le_refl _)])
          have BWr := Lib.hid hb
          have ZWr := Lib.hid (ZW7.out.of_block ((hkp.cells _ (by have := ZW7.out.lt; omega) (by omega)).trans (E8.out.block _ ZW7.out.lt)))
          have WP := Lib.hid (show WrS wr w3.heap.size wr.heap.size ([sgI none 0 ([] : List Int)] ++ sgII C i its) from by
            have h1 : Wr wr w3.heap.size w3.heap.size none 0 (([] : List Int).map i64) := W7.out.move (fun ad hn e => by
              obtain ⟨a', e', l1, _, l3, _⟩ := W7.out.2 hn
              rw [e] at e'; injection e' with e'; subst e'
              exact (hkp.cells _ (by omega) (by omega)).trans (E8.out.block _ l3)) (by omega) (Nat.le_refl _)
            have h2 := hO.out.wrS
            rw [Nat.mul_one] at h2
            exact WrS.append (mid := w3.heap.size) (WrS.one h1) (h2.wider (by omega) (Nat.le_refl _)) hz7 (by omega))
          have x0 := hB.out.cell 0; have x1 := hB.out.cell 1; have x2 := hB.out.cell 2
          have y0 := hB.out.frozen 0; have y1 := hB.out.frozen 1; have y2 := hB.out.frozen 2
          simp at x0 x1 x2
          clear hlt hC hb hkp hit htn
          obtain ⟨q, hq⟩ : ∃ q, proofB kd ([] : List Int) (its.map It.xs) = q := ⟨_, rfl⟩
          obtain ⟨txt, htx⟩ : ∃ t, prR kd ([] : List Int) (its.map It.xs) = t := ⟨_, rfl⟩
          have HQ := Lib.hid hq; have HTX := Lib.hid htx; have gtx := bs_toListS txt
          have HI2 := Lib.hid (show irR s = if txt = s then some (kdN a, ([] : List Int), its.map It.xs) else none by rw [HIR.out, HKD.out, HNM.out, ← HWD.out, HTX.out])
          have HV := Lib.hid (iValidProof_c kd none 0 0 ([] : List Int) C i cc its wr WP.out.rd ⟨by omega, by omega⟩ (fun t ht => by have := HTN.out t ht; omega))
          have HPT := Lib.hid (fun w' (hb : Below wr.heap.size wr w') => iProofText_c kd none 0 0 ([] : List Int) C i cc its w' (WP.out.below hb).rd ⟨by omega, by omega⟩ (fun t ht => by have := HTN.out t ht; omega) (HLS.out.below (BWr.out.trans (hb.mono BWr.out.size))).tab)
          rw [HQ.out] at HV
          rw [HTX.out] at HPT
          have hzW := BWr.out.size
          clear hq htx
          cases q
          · have HG := Lib.hid (show (((0, [], []), false) : PfD × Bool) = R by rw [← HR.out, HI2.out, if_neg (by rw [← HTX.out, prR_no HQ.out]; exact fun e => HSNE.out e.symm)]; rfl)
            go_wp2_with fail
            refine HV.out.mono ?_
            rintro e w9 ⟨rfl, hb9⟩
            have Z9 := ZWr.out.keep hb9; have B9 := Lib.hid (BWr.out.trans (hb9.mono hzW))
            have r0 := Z9.cell 0; have r1 := Z9.cell 1; have r2 := Z9.cell 2
            have f0 := Z9.frozen 0; have f1 := Z9.frozen 1; have f2 := Z9.frozen 2
            simp at r0 r1 r2
            clear hb9 Z9
            go_wp2_with fail
            refine bodyPost_ret (v := .tuple #[.agg #[i64 0, .slice none 0 0, .slice none 0 0], .bool false]) (by simp [results, Tryz.results15, go_sem, r0, r1, r2]) rfl ?_
            rw [← HG.out]
            exact PfOut.bad (((B9.out.setCell (by exact Nat.le_refl _) _).setCell (by exact Nat.le_refl _) _).setCell (by exact Nat.le_refl _) _)
          by_cases htt : txt = s
          · have g9 : (txt == s) = true := by rw [beq_iff_eq]; exact htt
            obtain ⟨y1, y2, y3, _, _⟩ := proofB_all HQ.out
            have hl1 : 0 ≤ 300 := by have h : ([] : List Int).length = 0 := RdI.len WP.out.rd.left.head; omega
            have hl2 : i ≤ 300 ∧ (its.length ≤ 300) := by have h : its.length = i := RdII.len WP.out.rd.right; rw [List.length_map] at y3; omega
            have hl3 := sum_words HTN.out
            have HG := Lib.hid (show ((kd, ([] : List Int), its.map It.xs), true) = R by rw [← HR.out, HI2.out, if_pos htt, ← HKD.out]; rfl)
            clear htt y1 y2 y3
            go_wp2_with fail
            refine HV.out.mono ?_
            rintro e w8 ⟨rfl, hb8⟩
            have P8 := hB.out.keep hb8; have H8 := Lib.hid hb8
            have x0 := P8.cell 0; have x1 := P8.cell 1; have x2 := P8.cell 2
            have y0 := P8.frozen 0; have y1 := P8.frozen 1; have y2 := P8.frozen 2
            simp at x0 x1 x2
            clear hb8 P8
            go_wp2_with fail
            refine (HPT.out _ H8.out).mono ?_
            rintro e w9 ⟨rfl, hb9⟩
            have E9 := Lib.hid (H8.out.trans (hb9.mono H8.out.size)); have P9 := hB.out.keep E9.out; have Z9 := ZWr.out.keep E9.out; have B9 := Lib.hid (BWr.out.trans (E9.out.mono hzW))
            have m0 := P9.cell 0; have m1 := P9.cell 1; have m2 := P9.cell 2
            have k0 := P9.frozen 0; have k1 := P9.frozen 1; have k2 := P9.frozen 2
            simp at m0 m1 m2
            have r0 := Z9.cell 0; have r1 := Z9.cell 1; have r2 := Z9.cell 2
            have f0 := Z9.frozen 0; have f1 := Z9.frozen 1; have f2 := Z9.frozen 2
            simp at r0 r1 r2
            clear hb9 P9 Z9
            go_wp2_with fail
            refine bodyPost_ret (v := .tuple #[.agg #[i64 kd, .slice none 0 0, .slice C i cc], .bool true]) (by simp [results, Tryz.results15, go_sem, r0, r1, r2]) rfl ?_
            rw [← HG.out]
            refine ⟨none, 0, 0, C, i, cc, its, rfl, ?_, ⟨by omega, by omega, fun t ht => by have := HTN.out t ht; omega, by omega, rfl⟩, ((B9.out.setCell (by exact Nat.le_refl _) _).setCell (by exact Nat.le_refl _) _).setCell (by exact Nat.le_refl _) _⟩
            have hS : WrS w9 w3.heap.size w9.heap.size ([sgI none 0 ([] : List Int)] ++ sgII C i its) := (WP.out.below E9.out).wider (Nat.le_refl _) E9.out.size
            have hw39 : w.heap.size < w3.heap.size := Z3.out.lt
            have h9 := (((hS.set_far (p := ⟨w.heap.size, 0, none⟩) (.inl hw39) (i64 kd)).set_far (p := ⟨w.heap.size, 1, none⟩) (.inl hw39) (.slice none 0 0)).set_far (p := ⟨w.heap.size, 2, none⟩) (.inl hw39) (.slice C i cc)).wider (lo' := w.heap.size) (by omega) (show w9.heap.size ≤ _ from Nat.le_refl _)
            simpa using h9
          · have g9 : (txt == s) = false := by rw [beq_eq_false_iff_ne]; exact htt
            have HG := Lib.hid (show (((0, [], []), false) : PfD × Bool) = R by rw [← HR.out, HI2.out, if_neg htt]; rfl)
            clear htt
            go_wp2_with fail
            refine HV.out.mono ?_
            rintro e w8 ⟨rfl, hb8⟩
            have P8 := hB.out.keep hb8; have H8 := Lib.hid hb8
            have x0 := P8.cell 0; have x1 := P8.cell 1; have x2 := P8.cell 2
            have y0 := P8.frozen 0; have y1 := P8.frozen 1; have y2 := P8.frozen 2
            simp at x0 x1 x2
            clear hb8 P8
            go_wp2_with fail
            refine (HPT.out _ H8.out).mono ?_
            rintro e w9 ⟨rfl, hb9⟩
            have E9 := Lib.hid (H8.out.trans (hb9.mono H8.out.size)); have Z9 := ZWr.out.keep E9.out; have B9 := Lib.hid (BWr.out.trans (E9.out.mono hzW))
            have r0 := Z9.cell 0; have r1 := Z9.cell 1; have r2 := Z9.cell 2
            have f0 := Z9.frozen 0; have f1 := Z9.frozen 1; have f2 := Z9.frozen 2
            simp at r0 r1 r2
            clear hb9 Z9
            go_wp2_with fail
            refine bodyPost_ret (v := .tuple #[.agg #[i64 0, .slice none 0 0, .slice none 0 0], .bool false]) (by simp [results, Tryz.results15, go_sem, r0, r1, r2]) rfl ?_
            rw [← HG.out]
            exact PfOut.bad (((B9.out.setCell (by exact Nat.le_refl _) _).setCell (by exact Nat.le_refl _) _).setCell (by exact Nat.le_refl _) _)
    · have g4 : (b == ([45] : List UInt8)) = false := by rw [beq_eq_false_iff_ne]; exact h45
      obtain ⟨⟨ns, q1⟩, h1⟩ : ∃ r, numsV (allD (spl 44 b)) = r := ⟨_, rfl⟩
      have HNM := Lib.hid (show nmP b = ns from by
        rw [nmP, if_neg h45]
        cases h : allD (spl 44 b) with
        | none => rw [h] at h1; injection h1 with h1 _
        | some x => rw [h] at h1; injection h1 with h1 _)
      have hnl : ns.length ≤ 1048577 := by
        have h0 := HB1.out
        cases h : allD (spl 44 b) with
        | none => rw [h] at h1; injection h1 with h1 _; rw [← h1]; simp
        | some x =>
          rw [h] at h1; injection h1 with h1 _; rw [← h1]
          have h2 := allD_len h
          have h3 := spl_len 44 b
          have h4 := List.count_le_length (a := 44) (l := b)
          omega
      have HC1 := Lib.hid (readDecimals_c b _ h1 w3 LS3.out HB1.out)
      clear h45 h1
      go_wp2_with fail
      refine HC1.out.mono ?_
      rintro e w6 ⟨A1, n1, c1', rfl, ho6, hb6⟩
      have hn1 : n1 ≤ 1048577 := by have h1 := ho6.1; rw [List.length_map] at h1; have h2 : ((ns, q1).1).length = ns.length := rfl; omega
      have BP6 := BP.out.keep hb6
      have hz6 := hb6.size
      have u0 := BP6.cell 0; have u1 := BP6.cell 1; have u2 := BP6.cell 2
      have t0 := BP6.frozen 0; have t1 := BP6.frozen 1; have t2 := BP6.frozen 2
      simp at u0 u1 u2
      obtain ⟨w7, hw7⟩ : ∃ w7, w6.setCell ⟨gp, 1, none⟩ (.slice A1 n1 c1') = w7 := ⟨_, rfl⟩
      have h67 : ∀ bb, bb ≠ gp → w7.heap[bb]? = w6.heap[bb]? := fun bb hbb => by rw [← hw7]; exact Below.heap_setCell _ _ _ _ hbb
      have hs67 : w7.heap.size = w6.heap.size := by rw [← hw7]; simp
      have BP7 := Lib.hid (show Blk w7 gp 42 #[i64 kd, .slice A1 n1 c1', .slice none 0 0] by rw [← hw7]; exact BP6.set_ 1 _)
      have hz7 : w3.heap.size ≤ w7.heap.size := by omega
      have BW7 := Lib.hid (show Below w.heap.size w w7 by rw [← hw7]; exact (B3.out.trans (hb6.mono B3.out.size)).setCell (by show w.heap.size ≤ gp; omega) _)
      have ZW7 := Lib.hid ((Z3.out.keep hb6).of_block (h67 _ (by omega)))
      have W7 := Lib.hid (show Wr w7 w3.heap.size w7.heap.size A1 n1 (ns.map i64) from ho6.wr.move (fun ad hn e => h67 _ (by have := (ho6.block e).1; omega)) (by omega) (by omega))
      have c27 : w7.cell? ⟨ad.block, ad.off + 2, none⟩ = some (.string (bs d)) := by rw [← hw7, World.cell?_setCell_other _ _ _ _ (fun e => by have := congrArg Addr.block e; simp at this; omega)]; exact keepc hb6 c2
      clear ho6 hb6 h67 BP6 c1 c2 HC1
      by_cases hd0 : d = []
      · have g5 : d.isEmpty = true := by rw [hd0]; rfl
        have HWD := Lib.hid (show ([] : List It).map It.xs = wdP d by rw [hd0]; rfl)
        have HTN := Lib.hid (show ∀ t ∈ ([] : List It), t.n ≤ 400 from fun t ht => by cases ht)
        have WP := Lib.hid (show WrS w7 w3.heap.size w7.heap.size ([sgI A1 n1 ns] ++ sgII none 0 []) from WrS.append (mid := w7.heap.size) (WrS.one W7.out) (OwnS.nil (B := w7.heap.size) (e := 26) (size := 1) Own.nil).wrS hz7 (Nat.le_refl _))
        have x0 := BP7.out.cell 0; have x1 := BP7.out.cell 1; have x2 := BP7.out.cell 2
        have y0 := BP7.out.frozen 0; have y1 := BP7.out.frozen 1; have y2 := BP7.out.frozen 2
        simp at x0 x1 x2
        clear hd0
        obtain ⟨q, hq⟩ : ∃ q, proofB kd ns (([] : List It).map It.xs) = q := ⟨_, rfl⟩
        obtain ⟨txt, htx⟩ : ∃ t, prR kd ns (([] : List It).map It.xs) = t := ⟨_, rfl⟩
        have HQ := Lib.hid hq; have HTX := Lib.hid htx; have gtx := bs_toListS txt
        have HI2 := Lib.hid (show irR s = if txt = s then some (kdN a, ns, ([] : List It).map It.xs) else none by rw [HIR.out, HKD.out, HNM.out, ← HWD.out, HTX.out])
        have HV := Lib.hid (iValidProof_c kd A1 n1 c1' ns none 0 0 ([] : List It) w7 WP.out.rd ⟨by omega, by omega⟩ (fun t ht => by have := HTN.out t ht; omega))
        have HPT := Lib.hid (fun w' (hb : Below w7.heap.size w7 w') => iProofText_c kd A1 n1 c1' ns none 0 0 ([] : List It) w' (WP.out.below hb).rd ⟨by omega, by omega⟩ (fun t ht => by have := HTN.out t ht; omega) (HLS.out.below (BW7.out.trans (hb.mono BW7.out.size))).tab)
        rw [HQ.out] at HV
        rw [HTX.out] at HPT
        have hzW := BW7.out.size
        clear hq htx
        cases q
        · have HG := Lib.hid (show (((0, [], []), false) : PfD × Bool) = R by rw [← HR.out, HI2.out, if_neg (by rw [← HTX.out, prR_no HQ.out]; exact fun e => HSNE.out e.symm)]; rfl)
          go_wp2_with fail
          refine HV.out.mono ?_
          rintro e w9 ⟨rfl, hb9⟩
          have Z9 := ZW7.out.keep hb9; have B9 := Lib.hid (BW7.out.trans (hb9.mono hzW))
          have r0 := Z9.cell 0; have r1 := Z9.cell 1; have r2 := Z9.cell 2
          have f0 := Z9.frozen 0; have f1 := Z9.frozen 1; have f2 := Z9.frozen 2
          simp at r0 r1 r2
          clear hb9 Z9
          go_wp2_with fail
          refine bodyPost_ret (v := .tuple #[.agg #[i64 0, .slice none 0 0, .slice none 0 0], .bool false]) (by simp [results, Tryz.results15, go_sem, r0, r1, r2]) rfl ?_
          rw [← HG.out]
          exact PfOut.bad (((B9.out.setCell (by exact Nat.le_refl _) _).setCell (by exact Nat.le_refl _) _).setCell (by exact Nat.le_refl _) _)
        by_cases htt : txt = s
        · have g9 : (txt == s) = true := by rw [beq_iff_eq]; exact htt
          obtain ⟨y1, y2, y3, _, _⟩ := proofB_all HQ.out
          have hl1 : n1 ≤ 300 := by have h : ns.length = n1 := RdI.len WP.out.rd.left.head; omega
          have hl2 : 0 ≤ 300 ∧ (([] : List It).length ≤ 300) := by have h : ([] : List It).length = 0 := RdII.len WP.out.rd.right; rw [List.length_map] at y3; omega
          have hl3 := sum_words HTN.out
          have HG := Lib.hid (show ((kd, ns, ([] : List It).map It.xs), true) = R by rw [← HR.out, HI2.out, if_pos htt, ← HKD.out]; rfl)
          clear htt y1 y2 y3
          go_wp2_with fail
          refine HV.out.mono ?_
          rintro e w8 ⟨rfl, hb8⟩
          have P8 := BP7.out.keep hb8; have H8 := Lib.hid hb8
          have x0 := P8.cell 0; have x1 := P8.cell 1; have x2 := P8.cell 2
          have y0 := P8.frozen 0; have y1 := P8.frozen 1; have y2 := P8.frozen 2
          simp at x0 x1 x2
          clear hb8 P8
          go_wp2_with fail
          refine (HPT.out _ H8.out).mono ?_
          rintro e w9 ⟨rfl, hb9⟩
          have E9 := Lib.hid (H8.out.trans (hb9.mono H8.out.size)); have P9 := BP7.out.keep E9.out; have Z9 := ZW7.out.keep E9.out; have B9 := Lib.hid (BW7.out.trans (E9.out.mono hzW))
          have m0 := P9.cell 0; have m1 := P9.cell 1; have m2 := P9.cell 2
          have k0 := P9.frozen 0; have k1 := P9.frozen 1; have k2 := P9.frozen 2
          simp at m0 m1 m2
          have r0 := Z9.cell 0; have r1 := Z9.cell 1; have r2 := Z9.cell 2
          have f0 := Z9.frozen 0; have f1 := Z9.frozen 1; have f2 := Z9.frozen 2
          simp at r0 r1 r2
          clear hb9 P9 Z9
          go_wp2_with fail
          refine bodyPost_ret (v := .tuple #[.agg #[i64 kd, .slice A1 n1 c1', .slice none 0 0], .bool true]) (by simp [results, Tryz.results15, go_sem, r0, r1, r2]) rfl ?_
          rw [← HG.out]
          refine ⟨A1, n1, c1', none, 0, 0, ([] : List It), rfl, ?_, ⟨by omega, by omega, fun t ht => by have := HTN.out t ht; omega, by omega, rfl⟩, ((B9.out.setCell (by exact Nat.le_refl _) _).setCell (by exact Nat.le_refl _) _).setCell (by exact Nat.le_refl _) _⟩
          have hS : WrS w9 w3.heap.size w9.heap.size ([sgI A1 n1 ns] ++ sgII none 0 ([] : List It)) := (WP.out.below E9.out).wider (Nat.le_refl _) E9.out.size
          have hw39 : w.heap.size < w3.heap.size := Z3.out.lt
          have h9 := (((hS.set_far (p := ⟨w.heap.size, 0, none⟩) (.inl hw39) (i64 kd)).set_far (p := ⟨w.heap.size, 1, none⟩) (.inl hw39) (.slice A1 n1 c1')).set_far (p := ⟨w.heap.size, 2, none⟩) (.inl hw39) (.slice none 0 0)).wider (lo' := w.heap.size) (by omega) (show w9.heap.size ≤ _ from Nat.le_refl _)
          simpa using h9
        · have g9 : (txt == s) = false := by rw [beq_eq_false_iff_ne]; exact htt
          have HG := Lib.hid (show (((0, [], []), false) : PfD × Bool) = R by rw [← HR.out, HI2.out, if_neg htt]; rfl)
          clear htt
          go_wp2_with fail
          refine HV.out.mono ?_
          rintro e w8 ⟨rfl, hb8⟩
          have P8 := BP7.out.keep hb8; have H8 := Lib.hid hb8
          have x0 := P8.cell 0; have x1 := P8.cell 1; have x2 := P8.cell 2
          have y0 := P8.frozen 0; have y1 := P8.frozen 1; have y2 := P8.frozen 2
          simp at x0 x1 x2
          clear hb8 P8
          go_wp2_with fail
          refine (HPT.out _ H8.out).mono ?_
          rintro e w9 ⟨rfl, hb9⟩
          have E9 := Lib.hid (H8.out.trans (hb9.mono H8.out.size)); have Z9 := ZW7.out.keep E9.out; have B9 := Lib.hid (BW7.out.trans (E9.out.mono hzW))
          have r0 := Z9.cell 0; have r1 := Z9.cell 1; have r2 := Z9.cell 2
          have f0 := Z9.frozen 0; have f1 := Z9.frozen 1; have f2 := Z9.frozen 2
          simp at r0 r1 r2
          clear hb9 Z9
          go_wp2_with fail
          refine bodyPost_ret (v := .tuple #[.agg #[i64 0, .slice none 0 0, .slice none 0 0], .bool false]) (by simp [results, Tryz.results15, go_sem, r0, r1, r2]) rfl ?_
          rw [← HG.out]
          exact PfOut.bad (((B9.out.setCell (by exact Nat.le_refl _) _).setCell (by exact Nat.le_refl _) _).setCell (by exact Nat.le_refl _) _)
      have g5 : d.isEmpty = false := by cases d with | nil => exact absurd rfl hd0 | cons x l => rfl
      obtain ⟨pd, hpd⟩ : ∃ p, spl 44 d = p := ⟨_, rfl⟩
      obtain ⟨m, hm⟩ : ∃ m, pd.length = m := ⟨_, rfl⟩
      have HWP := Lib.hid (show wdP d = pd.map fun x => (wdR1 x).getD [] by rw [wdP, if_neg hd0, hpd])
      have HPL := Lib.hid (show ∀ x ∈ pd, x.length ≤ 1048576 from fun x hx => by have h1 := spl_piece 44 d x (by rw [hpd]; exact hx); have h2 := HD1.out; omega)
      have HSP := Lib.hid (show Calls Tryz.prog 38 #[.string (bs d), .string ⟨#[44]⟩] w7 (StrOut pd m w7) by
        have := Split_c d 44 m (by rw [hpd, hm]) w7 (HLS.out.below BW7.out) HD1.out
        rw [hpd] at this; exact this)
      have hmb : m ≤ 1048577 := by rw [← hm, ← hpd, spl_len]; have h1 := List.count_le_length (a := 44) (l := d); have h2 := HD1.out; omega
      have HM := Lib.hid hm
      have hg7 : gp < w7.heap.size := BP7.out.lt
      clear hd0 hpd hm
      have x0 := BP7.out.cell 0; have x1 := BP7.out.cell 1; have x2 := BP7.out.cell 2
      have y0 := BP7.out.frozen 0; have y1 := BP7.out.frozen 1; have y2 := BP7.out.frozen 2
      simp at x0 x1 x2
      go_wp2_with fail
      refine HSP.out.mono ?_
      rintro e w8 ⟨AP, cP, rfl, hA, hb8⟩
      have PA := Lib.hid hA; have E8 := Lib.hid hb8; have hz8 := hb8.size
      have B8 := Lib.hid (BW7.out.trans (hb8.mono BW7.out.size)); have BP8 := Lib.hid (BP7.out.keep hb8)
      clear hA hb8 x0 x1 x2 y0 y1 y2 HSP c27
      go_wp2_with fail
      go_loopw [44] (fun iv wr => ∃ (i : Nat) (C : Option Addr) (cc : Nat) (its : List It), iv = .int .i64 i ∧ i ≤ m ∧ Hid (its.map It.xs = (pd.take i).map fun x => (wdR1 x).getD []) ∧ Hid (Blk wr gp 42 #[i64 kd, .slice A1 n1 c1', .slice C i cc]) ∧ Hid (OwnS wr w8.heap.size 26 1 C i cc (its.map hdI) (its.map bodyI)) ∧ KpB gp w8 wr C ∧ Below w.heap.size w wr ∧ Hid (∀ t ∈ its, t.n ≤ 400)) (fun iv _ => m - (intOf iv).toNat)
      case atStart => exact ⟨0, none, 0, [], rfl, by omega, rfl, BP8.out, OwnS.nil Own.nil, KpB.start (fun ad e => by cases e), B8.out, (fun t ht => by cases ht)⟩
      case round =>
        obtain ⟨i, C, cc, its, rfl, hi, hit, hB, hO, hkp, hb, htn⟩ := hrel
        have HB := Lib.hid hb; have HK := Lib.hid hkp; have HIT := Lib.hid hit.out; have HTN := Lib.hid htn.out
        have hwz := hb.size; have hkz := hkp.size
        have hC : ∀ ad, C = some ad → w8.heap.size ≤ ad.block := fun ad e => (hO.out.own.block e).1
        have HC2 := Lib.hid hC
        by_cases hlt : i < m
        · obtain ⟨adx, x, rfl, hx, hc⟩ := RdOwn.at_ PA.out (g := gp) hg7 hkp hlt
          obtain ⟨⟨xs, q⟩, hv⟩ : ∃ r, numsV (wdR1 x) = r := ⟨_, rfl⟩
          have HC := Lib.hid (ReadWord_c x _ hv wr (HPL.out x (List.mem_of_getElem? hx)))
          have hxs : (wdR1 x).getD [] = xs := by cases h : wdR1 x with | none => (rw [h] at hv; injection hv with hv _) | some y => (rw [h] at hv; injection hv with hv _)
          have hxl : xs.length ≤ 400 := by rw [← hxs]; cases h : wdR1 x with | none => simp | some z => exact (wd_some h).2.2
          have HX := Lib.hid (show (pd.take (i + 1)).map (fun x => (wdR1 x).getD []) = ((pd.take i).map fun x => (wdR1 x).getD []) ++ [xs] by rw [take_at hx, List.map_append, ← hxs]; rfl)
          clear hx hb hkp hv hxs hC hit htn
          go_wp2_with fail
          refine HC.out.mono ?_
          rintro e w4 ⟨A', n', c', rfl, ho4, hb4⟩
          have P4 := Lib.hid ho4; have C4 := Lib.hid hb4; have B4 := Lib.hid (HB.out.trans (hb4.mono hwz)); have z4 := hb4.size
          have hnx : xs.length = n' := by have h1 := ho4.1; rw [List.length_map] at h1; have h2 : ((xs, q).1).length = xs.length := rfl; omega
          have HNX := Lib.hid hnx
          have O4 := Lib.hid (hO.out.keep C4.out)
          have HIT4 := Lib.hid (show (its ++ [(⟨A', n', c', xs⟩ : It)]).map It.xs = (pd.take (i + 1)).map fun x => (wdR1 x).getD [] by rw [HX.out, List.map_append, HIT.out]; rfl)
          have W5 := Lib.hid (show Wr (w4.alloc (.cells #[.slice A' n' c'] 26)) wr.heap.size (w4.alloc (.cells #[.slice A' n' c'] 26)).heap.size A' n' (xs.map i64) from (P4.out.wr.below (below_size.alloc (Nat.le_refl _) _)).wider (Nat.le_refl _) (by simp))
          have B5 := Lib.hid (show Below wr.heap.size wr (w4.alloc (.cells #[.slice A' n' c'] 26)) from C4.out.alloc z4 _)
          have BP4 := Lib.hid (hB.out.keep hb4)
          have BP5 := Lib.hid (show Blk (w4.alloc (.cells #[.slice A' n' c'] 26)) gp 42 #[i64 kd, .slice A1 n1 c1', .slice C i cc] from BP4.out.keep (below_size.alloc (Nat.le_refl _) _))
          have hg4 := BP4.out.lt
          have x0 := BP4.out.cell 0; have x1 := BP4.out.cell 1; have x2 := BP4.out.cell 2
          have y0 := BP4.out.frozen 0; have y1 := BP4.out.frozen 1; have y2 := BP4.out.frozen 2
          simp at x0 x1 x2
          clear ho4 hb4 hnx
          go_wp2_with (at_builtin; refine wp_app1 (by rfl) _ _ 40 26 (.slice none 0 0) 24 (by rfl) Tryz.underlying40 info_sI rfl w8.heap.size C i cc (its.map hdI) (by rfl) (by exact (O4.out.own.alloc _)) w4.heap.size (.slice A' n' c') (by rfl) (by exact new_cell _ _ _ 0) rfl (by omega) (by omega) (by simp; omega) ?_; intro g' cap w6 own6 hb6 hk6 hg6 hz6; have O6 := Lib.hid (OwnS.push hO.out (by omega) B5.out (s := ⟨A', n', xs.map i64⟩) W5.out own6 hk6 hg6 hz6); have K6 := Lib.hid (KpB.push (B' := some ⟨g', 0, none⟩) HK.out C4.out hk6 hz6 (hg6.elim (fun e => .inl e.symm) (fun e => .inr fun ad h => by injection h with h; subst h; exact Nat.le_of_eq e.symm))); have E6 := Lib.hid ((B4.out.alloc (by omega) _).trans (hb6.mono (by omega))); have BP6 := Lib.hid (show Blk w6 gp 42 #[i64 kd, .slice A1 n1 c1', .slice C i cc] from BP5.out.of_block (hk6 gp (by simp; omega) (fun ad e => by have := HC2.out ad e; omega))); have u0 := BP6.out.cell 0; have u1 := BP6.out.cell 1; have u2 := BP6.out.cell 2; have t0 := BP6.out.frozen 0; have t1 := BP6.out.frozen 1; have t2 := BP6.out.frozen 2; simp at u0 u1 u2; clear own6 hb6 hk6 hg6 hz6)
          go_roundw
          case rel => exact ⟨i + 1, some ⟨g', 0, none⟩, cap, its ++ [⟨A', n', c', xs⟩], by go_num, by omega, HIT4, BP6.out.set_ 2 _, by unfold Hid; rw [List.map_append, List.map_append]; exact O6.out.move (fun b hb1 hb2 => Below.heap_setCell _ _ _ _ (by show b ≠ gp; omega)) (by simp), K6.out.setG _ _, E6.out.setCell (by show w.heap.size ≤ gp; omega) _, fun t ht => by rcases List.mem_append.1 ht with h | h; exact HTN.out t h; (rw [List.mem_singleton] at h; subst h; show n' ≤ 400; have := HNX.out; omega)⟩
          case measure => simp [intOf]; omega
        · obtain rfl : i = m := by omega
          have HWD := Lib.hid (show its.map It.xs = wdP d by rw [HIT.out, HWP.out, List.take_of_length_le (by rw [HM.out]; exact Nat.le_refl _)])
          have BWr := Lib.hid hb
          have ZWr := Lib.hid (ZW7.out.of_block ((hkp.cells _ (by have := ZW7.out.lt; omega) (by omega)).trans (E8.out.block _ ZW7.out.lt)))
          have WP := Lib.hid (show WrS wr w3.heap.size wr.heap.size ([sgI A1 n1 ns] ++ sgII C i its) from by
            have h1 : Wr wr w3.heap.size w7.heap.size A1 n1 (ns.map i64) := W7.out.move (fun ad hn e => by
              obtain ⟨a', e', l1, _, l3, _⟩ := W7.out.2 hn
              rw [e] at e'; injection e' with e'; subst e'
              exact (hkp.cells _ (by omega) (by omega)).trans (E8.out.block _ l3)) (by omega) (Nat.le_refl _)
            have h2 := hO.out.wrS
            rw [Nat.mul_one] at h2
            exact WrS.append (mid := w7.heap.size) (WrS.one h1) (h2.wider (by omega) (Nat.le_refl _)) hz7 (by omega))
          have x0 := hB.out.cell 0; have x1 := hB.out.cell 1; have x2 := hB.out.cell 2
          have y0 := hB.out.frozen 0; have y1 := hB.out.frozen 1; have y2 := hB.out.frozen 2
          simp at x0 x1 x2
          clear hlt hC hb hkp hit htn
          obtain ⟨q, hq⟩ : ∃ q, proofB kd ns (its.map It.xs) = q := ⟨_, rfl⟩
          obtain ⟨txt, htx⟩ : ∃ t, prR kd ns (its.map It.xs) = t := ⟨_, rfl⟩
          have HQ := Lib.hid hq; have HTX := Lib.hid htx; have gtx := bs_toListS txt
          have HI2 := Lib.hid (show irR s = if txt = s then some (kdN a, ns, its.map It.xs) else none by rw [HIR.out, HKD.out, HNM.out, ← HWD.out, HTX.out])
          have HV := Lib.hid (iValidProof_c kd A1 n1 c1' ns C i cc its wr WP.out.rd ⟨by omega, by omega⟩ (fun t ht => by have := HTN.out t ht; omega))
          have HPT := Lib.hid (fun w' (hb : Below wr.heap.size wr w') => iProofText_c kd A1 n1 c1' ns C i cc its w' (WP.out.below hb).rd ⟨by omega, by omega⟩ (fun t ht => by have := HTN.out t ht; omega) (HLS.out.below (BWr.out.trans (hb.mono BWr.out.size))).tab)
          rw [HQ.out] at HV
          rw [HTX.out] at HPT
          have hzW := BWr.out.size
          clear hq htx
          cases q
          · have HG := Lib.hid (show (((0, [], []), false) : PfD × Bool) = R by rw [← HR.out, HI2.out, if_neg (by rw [← HTX.out, prR_no HQ.out]; exact fun e => HSNE.out e.symm)]; rfl)
            go_wp2_with fail
            refine HV.out.mono ?_
            rintro e w9 ⟨rfl, hb9⟩
            have Z9 := ZWr.out.keep hb9; have B9 := Lib.hid (BWr.out.trans (hb9.mono hzW))
            have r0 := Z9.cell 0; have r1 := Z9.cell 1; have r2 := Z9.cell 2
            have f0 := Z9.frozen 0; have f1 := Z9.frozen 1; have f2 := Z9.frozen 2
            simp at r0 r1 r2
            clear hb9 Z9
            go_wp2_with fail
            refine bodyPost_ret (v := .tuple #[.agg #[i64 0, .slice none 0 0, .slice none 0 0], .bool false]) (by simp [results, Tryz.results15, go_sem, r0, r1, r2]) rfl ?_
            rw [← HG.out]
            exact PfOut.bad (((B9.out.setCell (by exact Nat.le_refl _) _).setCell (by exact Nat.le_refl _) _).setCell (by exact Nat.le_refl _) _)
          by_cases htt : txt = s
          · have g9 : (txt == s) = true := by rw [beq_iff_eq]; exact htt
            obtain ⟨y1, y2, y3, _, _⟩ := proofB_all HQ.out
            have hl1 : n1 ≤ 300 := by have h : ns.length = n1 := RdI.len WP.out.rd.left.head; omega
            have hl2 : i ≤ 300 ∧ (its.length ≤ 300) := by have h : its.length = i := RdII.len WP.out.rd.right; rw [List.length_map] at y3; omega
            have hl3 := sum_words HTN.out
            have HG := Lib.hid (show ((kd, ns, its.map It.xs), true) = R by rw [← HR.out, HI2.out, if_pos htt, ← HKD.out]; rfl)
            clear htt y1 y2 y3
            go_wp2_with fail
            refine HV.out.mono ?_
            rintro e w8 ⟨rfl, hb8⟩
            have P8 := hB.out.keep hb8; have H8 := Lib.hid hb8
            have x0 := P8.cell 0; have x1 := P8.cell 1; have x2 := P8.cell 2
            have y0 := P8.frozen 0; have y1 := P8.frozen 1; have y2 := P8.frozen 2
            simp at x0 x1 x2
            clear hb8 P8
            go_wp2_with fail
            refine (HPT.out _ H8.out).mono ?_
            rintro e w9 ⟨rfl, hb9⟩
            have E9 := Lib.hid (H8.out.trans (hb9.mono H8.out.size)); have P9 := hB.out.keep E9.out; have Z9 := ZWr.out.keep E9.out; have B9 := Lib.hid (BWr.out.trans (E9.out.mono hzW))
            have m0 := P9.cell 0; have m1 := P9.cell 1; have m2 := P9.cell 2
            have k0 := P9.frozen 0; have k1 := P9.frozen 1; have k2 := P9.frozen 2
            simp at m0 m1 m2
            have r0 := Z9.cell 0; have r1 := Z9.cell 1; have r2 := Z9.cell 2
            have f0 := Z9.frozen 0; have f1 := Z9.frozen 1; have f2 := Z9.frozen 2
            simp at r0 r1 r2
            clear hb9 P9 Z9
            go_wp2_with fail
            refine bodyPost_ret (v := .tuple #[.agg #[i64 kd, .slice A1 n1 c1', .slice C i cc], .bool true]) (by simp [results, Tryz.results15, go_sem, r0, r1, r2]) rfl ?_
            rw [← HG.out]
            refine ⟨A1, n1, c1', C, i, cc, its, rfl, ?_, ⟨by omega, by omega, fun t ht => by have := HTN.out t ht; omega, by omega, rfl⟩, ((B9.out.setCell (by exact Nat.le_refl _) _).setCell (by exact Nat.le_refl _) _).setCell (by exact Nat.le_refl _) _⟩
            have hS : WrS w9 w3.heap.size w9.heap.size ([sgI A1 n1 ns] ++ sgII C i its) := (WP.out.below E9.out).wider (Nat.le_refl _) E9.out.size
            have hw39 : w.heap.size < w3.heap.size := Z3.out.lt
            have h9 := (((hS.set_far (p := ⟨w.heap.size, 0, none⟩) (.inl hw39) (i64 kd)).set_far (p := ⟨w.heap.size, 1, none⟩) (.inl hw39) (.slice A1 n1 c1')).set_far (p := ⟨w.heap.size, 2, none⟩) (.inl hw39) (.slice C i cc)).wider (lo' := w.heap.size) (by omega) (show w9.heap.size ≤ _ from Nat.le_refl _)
            simpa using h9
          · have g9 : (txt == s) = false := by rw [beq_eq_false_iff_ne]; exact htt
            have HG := Lib.hid (show (((0, [], []), false) : PfD × Bool) = R by rw [← HR.out, HI2.out, if_neg htt]; rfl)
            clear htt
            go_wp2_with fail
            refine HV.out.mono ?_
            rintro e w8 ⟨rfl, hb8⟩
            have P8 := hB.out.keep hb8; have H8 := Lib.hid hb8
            have x0 := P8.cell 0; have x1 := P8.cell 1; have x2 := P8.cell 2
            have y0 := P8.frozen 0; have y1 := P8.frozen 1; have y2 := P8.frozen 2
            simp at x0 x1 x2
            clear hb8 P8
            go_wp2_with fail
            refine (HPT.out _ H8.out).mono ?_
            rintro e w9 ⟨rfl, hb9⟩
            have E9 := Lib.hid (H8.out.trans (hb9.mono H8.out.size)); have Z9 := ZWr.out.keep E9.out; have B9 := Lib.hid (BWr.out.trans (E9.out.mono hzW))
            have r0 := Z9.cell 0; have r1 := Z9.cell 1; have r2 := Z9.cell 2
            have f0 := Z9.frozen 0; have f1 := Z9.frozen 1; have f2 := Z9.frozen 2
            simp at r0 r1 r2
            clear hb9 Z9
            go_wp2_with fail
            refine bodyPost_ret (v := .tuple #[.agg #[i64 0, .slice none 0 0, .slice none 0 0], .bool false]) (by simp [results, Tryz.results15, go_sem, r0, r1, r2]) rfl ?_
            rw [← HG.out]
            exact PfOut.bad (((B9.out.setCell (by exact Nat.le_refl _) _).setCell (by exact Nat.le_refl _) _).setCell (by exact Nat.le_refl _) _)
end Go.Proofs.YtdendllginlidaaGreatDoor
