/-
  Contracts of chapter 27 (RepeatsIn): powers of a word; a formula tape is made; whether it fits two words.
-/
import Derived.Test.YtmmgejnhfpfmnaaC27f
import Derived.Test.YtmmgejnhfpfmnaaAppA
import Derived.Test.YtmmgejnhfpfmnaaEqI
import Derived.Test.YtmmgejnhfpfmnaaP27r
import Derived.Test.YtmmgejnhfpfmnaaMixB
namespace Go.Proofs.Ytmmgejnhfpfmnaa
open Go.RowKit

theorem repN_len (xs : List Int) : ∀ m, (repN m xs).length = m * xs.length
  | 0 => by simp [repN]
  | m + 1 => by rw [repN, List.length_append, repN_len xs m, Nat.succ_mul]
section
variable {w w0 : World} {B g lo hi n : Nat} {A : Option Addr} {vs : List Value} {u0 u1 u2 u3 u4 u5 : Value}
theorem Wr.set6 (h : Wr w lo hi A n vs) (hg : g < lo) : Wr ((((((w.setCell ⟨g, 0, none⟩ u0).setCell ⟨g, 1, none⟩ u1).setCell ⟨g, 2, none⟩ u2).setCell ⟨g, 3, none⟩ u3).setCell ⟨g, 4, none⟩ u4).setCell ⟨g, 5, none⟩ u5) lo hi A n vs :=
  (((((h.set_far (.inl hg) _).set_far (.inl hg) _).set_far (.inl hg) _).set_far (.inl hg) _).set_far (.inl hg) _).set_far (.inl hg) _
theorem below_set6 (h : Below B w0 w) (hg : B ≤ g) : Below B w0 ((((((w.setCell ⟨g, 0, none⟩ u0).setCell ⟨g, 1, none⟩ u1).setCell ⟨g, 2, none⟩ u2).setCell ⟨g, 3, none⟩ u3).setCell ⟨g, 4, none⟩ u4).setCell ⟨g, 5, none⟩ u5) :=
  (((((h.setCell (by exact hg) _).setCell (by exact hg) _).setCell (by exact hg) _).setCell (by exact hg) _).setCell (by exact hg) _).setCell (by exact hg) _
theorem WrS.set6 {ss : List Seg} (h : WrS w lo hi ss) (hg : g < lo) : WrS ((((((w.setCell ⟨g, 0, none⟩ u0).setCell ⟨g, 1, none⟩ u1).setCell ⟨g, 2, none⟩ u2).setCell ⟨g, 3, none⟩ u3).setCell ⟨g, 4, none⟩ u4).setCell ⟨g, 5, none⟩ u5) lo hi ss :=
  (((((h.set_far (.inl hg) _).set_far (.inl hg) _).set_far (.inl hg) _).set_far (.inl hg) _).set_far (.inl hg) _).set_far (.inl hg) _
end
/-- numbers that are only read from here on -/
def RdOut (xs : List Int) (w : World) (e : Ending) (w' : World) : Prop := ∃ A n c, e = .returned (.slice A n c) ∧ RdI w' A n xs ∧ Below w.heap.size w w'
theorem l00OwnX_c (A : Option Addr) (n c : Nat) (ws : List Int) (w : World) (h : RdI w A n ws) (hn : n ≤ 1000000) :
    Calls Try.prog 80 #[.slice A n c] w fun e w' => ∃ A' cap, e = .returned (.slice A' n cap) ∧ Own w' w.heap.size 2 1 A' n cap (ws.map i64) ∧ Below w.heap.size w w' := by
  have H := Lib.hid h; clear h
  go_enter Try.func80, Try.ntmps80
  go_wp2_with (at_builtin; refine wp_appA (by rfl) _ _ (by rfl) w.heap.size (some ⟨w.heap.size, 0, none⟩) 0 0 [] (by rfl) (by exact Own.lit (Nat.le_refl _)) A n c ws (by rfl) (by exact H.out.alloc _) (by omega) (by simp) ?_; intro A2 cap w2 own2 hb2 hk2 hg2 hz2)
  rw [Nat.zero_add, List.nil_append] at own2
  have O2 := Lib.hid own2; have B2 := Lib.hid ((below_size.alloc (Nat.le_refl _) (.cells #[] 2)).trans hb2)
  clear own2 hb2 hk2 hg2 hz2
  go_wp2_with fail
  go_ret
  exact ⟨A2, cap, by simp, O2.out, B2.out⟩
set_option maxHeartbeats 1000000 in
theorem l03Power_c (A : Option Addr) (n c : Nat) (xs : List Int) (m : Nat) (w : World) (h : RdI w A n xs) (hn : n ≤ 100000) (hm : m ≤ 100) :
    Calls Try.prog 106 #[.slice A n c, .int .i64 m] w (RdOut (repN m xs) w) := by
  have HL := Lib.hid h.len
  have H := Lib.hid h; clear h
  go_enter Try.func106, Try.ntmps106
  go_wp2_with fail
  go_loopw [1, 5] (fun mv av wr => ∃ (k j : Nat) (O : Option Addr) (l oc : Nat), k + j = m ∧ mv = .int .i64 k ∧ av = .slice O l oc ∧ l ≤ j * 100000 ∧ Hid (Own wr w.heap.size 2 1 O l oc ((repN j xs).map i64)) ∧ Below w.heap.size w wr) (fun mv _ _ => (intOf mv).toNat)
  case atStart => exact ⟨m, 0, _, 0, 0, by omega, rfl, rfl, by omega, Own.lit (Nat.le_refl _), below_size.alloc (Nat.le_refl _) _⟩
  case round =>
    obtain ⟨k, j, O, l, oc, hkj, rfl, rfl, hl, hO, hb⟩ := hrel
    have HB := Lib.hid hb
    have hwz := hb.size
    have hX := Lib.hid (H.out.below hb)
    by_cases hlt : 0 < k
    · have k1 : decide ((0 : Int) < (k : Int)) = true := decide_eq_true (by omega)
      have v1 : IntKind.i64.wrap ((k : Int) - 1) = ((k - 1 : Nat) : Int) := by rw [IntWalk.i64_in _ (by omega)]; omega
      clear hb
      go_wp2_with (at_builtin; refine wp_appA (by rfl) _ _ (by rfl) w.heap.size O l oc ((repN j xs).map i64) (by rfl) (by exact hO.out) A n c xs (by rfl) (by exact hX.out) (by omega) hwz ?_; intro A2 cap w2 own2 hb2 hk2 hg2 hz2)
      have O2 := Lib.hid own2; have B2 := Lib.hid (HB.out.trans hb2)
      clear own2 hb2 hk2 hg2 hz2
      go_wp2_with fail
      go_roundw
      case rel => exact ⟨k - 1, j + 1, A2, l + n, cap, by omega, by go_num, rfl, by rw [Nat.succ_mul]; omega, by unfold Hid; rw [repN, List.map_append]; exact O2.out, B2.out⟩
      case measure => simp [intOf]; omega
    · obtain rfl : k = 0 := by omega
      obtain rfl : j = m := by omega
      clear hb
      go_wp2_with fail
      go_ret
      exact ⟨O, l, oc, rfl, hO.out.wr.rdI, HB.out⟩
set_option maxHeartbeats 1000000 in
theorem l27Make_c (s : Int) (A0 : Option Addr) (r c0 : Nat) (its0 : List It) (A1 : Option Addr) (c1 : Nat) (w : World) (h0 : RdS w (sgII A0 (r + 1) its0)) (hr : r ≤ 10) (hi : ∀ t ∈ its0, t.n ≤ 1000000) :
    Calls Try.prog 79 #[.int .i64 s, .slice A0 (r + 1) c0, .slice A1 r c1] w fun e w' => ∃ g, e = .returned (.agg #[.int .i64 s, .int .i64 r, .int .i64 (((its0.getD r ⟨none, 0, 0, []⟩).n : Int) - 1), .slice A0 (r + 1) c0, .slice A1 r c1, .slice (some ⟨g, 0, none⟩) r r]) ∧
      Wr w' w.heap.size w'.heap.size (some ⟨g, 0, none⟩) r ((List.replicate r 0).map i64) ∧ Below w.heap.size w w' := by
  obtain ⟨ad, t, rfl, hab, ht, hct, hrt⟩ := RdII.at_ h0 (k := r) (by omega)
  have htn := hi t (List.mem_of_getElem? ht)
  rw [show its0.getD r ⟨none, 0, 0, []⟩ = t by rw [List.getD_eq_getElem?_getD, ht]; rfl]
  have v1 : IntKind.i64.wrap ((t.n : Int) - 1) = (t.n : Int) - 1 := IntWalk.i64_in _ (by omega)
  have hmk : ∀ w, (Instr.makeSlice 25 (.int .i64 r) (.int .i64 r)).run Try.prog w = .ok (.slice (some ⟨w.heap.size, 0, none⟩) r r) (w.alloc (.cells (Array.replicate r (.int .i64 0)) 2)) := fun w => run_mk (P := Try.prog) 25 2 (.int .i64 0) 8 Try.underlying25 info_i64 rfl .i64 .i64 r r (Nat.le_refl _) (by omega) (by omega) w
  obtain ⟨w0, hw0⟩ : ∃ w0, w.alloc (.cells #[i64 0, i64 0, i64 0, .slice none 0 0, .slice none 0 0, .slice none 0 0] 29) = w0 := ⟨_, rfl⟩
  have Z0 := Lib.hid (show Blk w0 w.heap.size 29 #[i64 0, i64 0, i64 0, .slice none 0 0, .slice none 0 0, .slice none 0 0] by rw [← hw0]; exact Blk.new w _ _)
  have B0 := Lib.hid (show Below w.heap.size w w0 by rw [← hw0]; exact below_size.alloc (Nat.le_refl _) _)
  have hc0 : w0.cell? (ad.add r) = some (.slice t.A t.n t.c) := keepc B0.out hct
  clear h0 hct hrt hi ht
  go_enter Try.func79, Try.ntmps79
  go_wp2_with fail
  have x0 := Ext.cell hc0
  refine Mix.wp_region_mix [0, 0, 0, 0, 0, 3, 0, 0, 0, 0, 0, 1, 0, 2] (fun w' => ∃ x : Ext w0, w' = x.w) (by kernel_rfl) (by kernel_rfl) (InExt.drew _) ?_
  repeat (first | (refine Mix.wpMix_read (by rfl) ?_; go_big_quiet_step (fail); refine wpQuiet_nil ?_) | (refine Mix.wpMix_pure (by rfl) ?_; go_big_quiet_step (fail); refine wpQuiet_nil ?_))
  refine Mix.wpMix_chg (by rfl) (fun K hK => ?_)
  go_wp2_with fail
  refine hK _ _ ⟨⟨_, below_drew (below_size.alloc (Nat.le_refl _) _)⟩, rfl⟩ ?_
  clear hK K
  obtain ⟨w1, hw1⟩ : ∃ w1, (w0.alloc (.cells (Array.replicate r (.int .i64 0)) 2)).drew = w1 := ⟨_, rfl⟩
  rw [hw1]
  have E1 := Lib.hid (show Below w0.heap.size w0 w1 by rw [← hw1]; exact below_drew (below_size.alloc (Nat.le_refl _) _))
  have W1 := Lib.hid (show Wr w1 w0.heap.size w1.heap.size (some ⟨w0.heap.size, 0, none⟩) r ((List.replicate r (0 : Int)).map i64) by
    rw [← hw1]
    exact (Blk.new w0 2 (Array.replicate r (i64 0))).drew.wr (Nat.le_refl _) (by simp [World.drew]) (by simp) (by simp))
  have Z1 := Lib.hid (Z0.out.keep E1.out)
  clear hw1 hmk
  refine Mix.wpMix_build (by rfl) _ _ rfl (.agg #[.int .i64 s, .int .i64 r, .int .i64 ((t.n : Int) - 1), .slice (some ad) (r + 1) c0, .slice A1 r c1, .slice (some ⟨w0.heap.size, 0, none⟩) r r]) (fun w => by simp [go_sem]) ?_
  simp only [Act.put, List.setIfInBounds_toArray, List.set_cons_succ, List.set_cons_zero]
  have z0 := Z1.out.cell 0; have z1 := Z1.out.cell 1; have z2 := Z1.out.cell 2; have z3 := Z1.out.cell 3; have z4 := Z1.out.cell 4; have z5 := Z1.out.cell 5
  have f0 := Z1.out.frozen 0; have f1 := Z1.out.frozen 1; have f2 := Z1.out.frozen 2; have f3 := Z1.out.frozen 3; have f4 := Z1.out.frozen 4; have f5 := Z1.out.frozen 5
  simp at z0 z1 z2 z3 z4 z5
  refine Mix.wpMix_tail (by rfl) (fun K hK => ?_)
  go_wp2_with fail
  refine hK _ _ ?_
  clear hK K
  (refine Mix.wpMix_nil ?_; try simp only [Exit.then])
  go_wp2_with fail
  refine bodyPost_ret (v := .agg #[.int .i64 s, .int .i64 r, .int .i64 ((t.n : Int) - 1), .slice (some ad) (r + 1) c0, .slice A1 r c1, .slice (some ⟨w0.heap.size, 0, none⟩) r r]) (by simp [results, Try.results79, go_sem, z0, z1, z2, z3, z4, z5]) rfl ?_
  have hz := B0.out.size
  have hz0 := Z0.out.lt
  exact ⟨_, rfl, (W1.out.set6 (by omega)).wider (by omega) (by simp), below_set6 (below_chain B0.out hz E1.out) (Nat.le_refl _)⟩
theorem tailF_at {m i : Nat} {rs ws : List (List Int)} {r x : List Int} (h : rs[i]? = some r) (h' : ws[i + 1]? = some x) : tailF m (rs.drop i) (ws.drop (i + 1)) = repN m r ++ (x ++ tailF m (rs.drop (i + 1)) (ws.drop (i + 1 + 1))) := by
  rw [drop_at h, drop_at h', tailF]
/-- whether the words are as they should be, so far -/
def fitQ (b c : List Int) (F : Fd) (k : Nat) : Prop := (2 ≤ k → fullF 1 F = b) ∧ (3 ≤ k → fullF 2 F = c)
set_option maxHeartbeats 4000000 in
set_option maxRecDepth 100000 in
theorem l27Fits_c (g : Nat) (s hd a : Int) (A0 : Option Addr) (r c0 : Nat) (its0 : List It) (A1 : Option Addr) (c1 : Nat) (its1 : List It) (A2 : Option Addr) (n2 c2 : Nat) (os : List Int) (B C : Option Addr) (nb cb nc cc : Nat) (b c : List Int) (q : Bool) (w : World)
    (h : FormP w g s hd a A0 (r + 1) c0 its0 A1 r c1 its1 A2 n2 c2 os) (hr : r ≤ 10) (hi0 : ∀ t ∈ its0, t.n ≤ 100000) (hi1 : ∀ t ∈ its1, t.n ≤ 100000) (hb : RdI w B nb b) (hc : RdI w C nc c) (_hnb : nb ≤ 1000000) (_hnc : nc ≤ 1000000) (hq : fitF b c (its0.map It.xs, its1.map It.xs) = q) :
    Calls Try.prog 81 #[.pointer (some ⟨g, 0, none⟩), .slice B nb cb, .slice C nc cc] w fun e w' => e = .returned (.bool q) ∧ Below w.heap.size w w' := by
  have HL0 := Lib.hid (RdII.len h.r0); have HL1 := Lib.hid (RdII.len h.r1)
  have H := Lib.hid h; have HB := Lib.hid hb; have HC := Lib.hid hc; have HI0 := Lib.hid hi0; have HI1 := Lib.hid hi1
  obtain ⟨F, hF⟩ : ∃ F : Fd, (its0.map It.xs, its1.map It.xs) = F := ⟨_, rfl⟩
  rw [hF] at hq
  have HF := Lib.hid hF; have HQ := Lib.hid hq
  clear h hb hc hi0 hi1 hF hq
  go_enter Try.func81, Try.ntmps81
  go_wp2_with fail
  go_loopw [7] (fun nv wr => ∃ k : Nat, 1 ≤ k ∧ k ≤ 3 ∧ nv = .int .i64 k ∧ Hid (fitQ b c F k) ∧ Below w.heap.size w wr) (fun nv _ => 4 - (intOf nv).toNat)
  case atStart => exact ⟨1, by omega, by omega, rfl, ⟨fun h => by omega, fun h => by omega⟩, below_size⟩
  case round =>
    obtain ⟨k, hk1, hk3, rfl, hfq, hbw⟩ := hrel
    have HBW := Lib.hid hbw
    have P := Lib.hid (H.out.below hbw)
    have d3 := P.out.d3; have d4 := P.out.d4
    by_cases hlt : k ≤ 2
    · obtain ⟨ad0, t0, rfl, hab0, ht0, hct0, hrt0⟩ := RdII.at_ P.out.r0 (k := 0) (by omega)
      have T0 := Lib.hid hrt0.head
      have ht0n := HI0.out t0 (List.mem_of_getElem? ht0)
      have k1 : decide ((k : Int) ≤ 2) = true := decide_eq_true (by omega)
      rw [show ad0.add 0 = ad0 by simp [Addr.add]] at hct0
      go_wp2_with fail
      refine (l00OwnX_c t0.A t0.n t0.c t0.xs _ (by exact T0.out) (by omega)).mono ?_
      rintro e w1 ⟨A', cap, rfl, hw, hb1⟩
      have hwz := HBW.out.size
      have O1 := Lib.hid hw; have B1 := Lib.hid (below_chain HBW.out hwz hb1)
      have hz1 := hb1.size
      have T1 := Lib.hid (show fullF k F = t0.xs ++ tailF k (F.2.drop 0) (F.1.drop (0 + 1)) by
        rw [← HF.out, fullF]
        cases its0 with
        | nil => simp at ht0
        | cons x l => simp at ht0; subst ht0; simp)
      clear hw hb1 d3 d4 hrt0 ht0 hct0 hbw
      go_wp2_with fail
      obtain ⟨wo, rfl⟩ : ∃ wo : World, wo = wr := ⟨_, rfl⟩
      go_loopw [8, 9] (fun av iv ws => ∃ (i : Nat) (O : Option Addr) (l oc : Nat) (xs : List Int), i ≤ r ∧ iv = .int .i64 i ∧ av = .slice O l oc ∧ l ≤ 100000 + i * 100000000 ∧ Hid (fullF k F = xs ++ tailF k (F.2.drop i) (F.1.drop (i + 1))) ∧ Hid (Own ws wo.heap.size 2 1 O l oc (xs.map i64)) ∧ Below w.heap.size w ws ∧ wo.heap.size ≤ ws.heap.size) (fun _ iv _ => r - (intOf iv).toNat)
      case atStart => exact ⟨0, A', t0.n, cap, t0.xs, by omega, rfl, rfl, by omega, T1.out, O1.out, B1.out, hz1⟩
      case round =>
        obtain ⟨i, O, l, oc, xs, hi, rfl, rfl, hl, hfx, hO, hbs, hzs⟩ := hrel
        have HBS := Lib.hid hbs
        have PS := Lib.hid (H.out.below hbs)
        have d3 := PS.out.d3; have d4 := PS.out.d4
        have hsz := hbs.size
        by_cases hlr : i < r
        · obtain ⟨ar, tr, rfl, har, htr, hctr0, hrtr⟩ := RdII.at_ H.out.r1 hlr
          obtain ⟨aw, tw, eaw, haw, htw, hctw0, hrtw⟩ := RdII.at_ H.out.r0 (k := i + 1) (by omega)
          injection eaw with eaw
          subst eaw
          have HTR := Lib.hid hrtr.head; have HTW := Lib.hid hrtw.head
          have hrn := HI1.out tr (List.mem_of_getElem? htr)
          have hwn := HI0.out tw (List.mem_of_getElem? htw)
          have HS := Lib.hid (show fullF k F = (xs ++ repN k tr.xs) ++ tw.xs ++ tailF k (F.2.drop (i + 1)) (F.1.drop (i + 1 + 1)) by
            rw [hfx.out, ← HF.out, tailF_at (r := tr.xs) (x := tw.xs) (by simp [htr]) (by simp [htw])]
            simp only [List.append_assoc])
          have kr : decide ((i : Int) < (r : Int)) = true := decide_eq_true (by omega)
          have hctr := keepc hbs hctr0
          have HCW := Lib.hid hctw0
          have v1 : IntKind.i64.wrap ((i : Int) + 1) = (i : Int) + 1 := IntWalk.i64_in _ (by omega)
          have v3 : ((i : Int) + 1).toNat = i + 1 := by omega
          clear hrtr hrtw htr htw hfx hbs hctr0 hctw0
          go_wp2_with fail
          refine (l03Power_c tr.A tr.n tr.c tr.xs k _ (by exact Rd.below HTR.out HBS.out) (by omega) (by omega)).mono ?_
          rintro e wp ⟨Ap, np, cp, rfl, hRp, hbp⟩
          have HRP := Lib.hid hRp; have BP := Lib.hid hbp
          have hzp := hbp.size
          have hnp : np ≤ 1000000 := by
            have h1 := hRp.len
            rw [repN_len, (show RdI w tr.A tr.n tr.xs from HTR.out).len] at h1
            rw [← h1]
            calc k * tr.n ≤ 2 * 100000 := Nat.mul_le_mul hlt hrn
              _ ≤ 1000000 := by omega
          clear hRp hbp d3 d4 hctr
          go_wp2_with first
            | (at_builtin; refine wp_appA (by rfl) _ _ (by rfl) wo.heap.size O l oc (xs.map i64) (by rfl) (by exact hO.out.keep BP.out) Ap np cp (repN k tr.xs) (by rfl) (by exact HRP.out) (by omega) (by omega) ?_; intro A2 cap2 w2 own2 hb2 hk2 hg2 hz2; have O2 := Lib.hid own2; have B2 := Lib.hid (show Below w.heap.size w w2 from (HBS.out.trans (BP.out.mono hsz)).trans (hb2.mono hwz)); have d3 := keepc B2.out H.out.d3; have hctw := keepc B2.out HCW.out; have hctw2 : w2.cell? { block := ad0.block, off := ad0.off + (i + 1) } = some (.slice tw.A tw.n tw.c) := hctw; clear own2 hb2 hk2 hg2)
            | (at_builtin; refine wp_appA (by rfl) _ _ (by rfl) wo.heap.size A2 (l + np) cap2 (xs.map i64 ++ (repN k tr.xs).map i64) (by rfl) (by exact O2.out) tw.A tw.n tw.c tw.xs (by rfl) (by exact Rd.below HTW.out B2.out) (by omega) (by omega) ?_; intro A3 cap3 w3 own3 hb3 hk3 hg3 hz3; have O3 := Lib.hid own3; have B3 := Lib.hid (show Below w.heap.size w w3 from B2.out.trans (hb3.mono hwz)); clear own3 hb3 hk3 hg3)
          clear d3 hctw hctw2
          go_roundw
          case rel => exact ⟨i + 1, A3, l + np + tw.n, cap3, xs ++ repN k tr.xs ++ tw.xs, by omega, by go_num, rfl, by omega, HS.out, by unfold Hid; rw [List.map_append, List.map_append]; exact O3.out, B3.out, by omega⟩
          case measure => simp [intOf]; omega
        · have HS := Lib.hid (show fullF k F = xs by
            rw [hfx.out, ← HF.out, List.drop_eq_nil_of_le (by simp; have := HL1.out; omega)]
            simp [tailF])
          have kr : decide ((i : Int) < (r : Int)) = false := decide_eq_false (by omega)
          rcases (show k = 1 ∨ k = 2 by omega) with hk | hk
          · have e1 : ((k : Int) == 1) = true := by simp; omega
            have e2 : ((k : Int) == 2) = false := by simp; omega
            obtain ⟨p, hp⟩ : ∃ p, eqL xs b = p := ⟨_, rfl⟩
            have hsame := l00Same_c O B l nb oc cb xs b _ (by exact hO.out.wr.rdI) (by exact HB.out.below HBS.out) (by omega)
            rw [hp] at hsame
            have HSA := Lib.hid hsame; have HP := Lib.hid hp
            clear hsame hp hbs hfx
            go_wp2_with fail
            clear d3 d4
            refine HSA.out.mono ?_
            rintro e w2 ⟨rfl, hq2⟩
            have B2 := Lib.hid (below_chain HBS.out hsz (hq2.below _))
            clear hq2 HSA
            cases p
            · have HN := Lib.hid (show false = q by
                have h1 : ¬ fullF 1 F = b := by
                  have := of_decide_eq_false HP.out
                  rw [← HS.out] at this
                  have hk : k = 1 := by omega
                  rwa [hk] at this
                rw [← HQ.out, fitF, decide_eq_false h1]; simp)
              go_wp2_with fail
              go_ret
              exact ⟨by rw [← HN.out]; rfl, B2.out⟩
            · have HT := Lib.hid (show fullF 1 F = b by
                have := of_decide_eq_true HP.out
                rw [← HS.out] at this
                have hk : k = 1 := by omega
                rwa [hk] at this)
              have v1 : IntKind.i64.wrap ((k : Int) + 1) = (k : Int) + 1 := IntWalk.i64_in _ (by omega)
              go_wp2_with fail
              go_roundw
              case rel => exact ⟨k + 1, by omega, by omega, by go_num, ⟨fun _ => HT.out, fun h => by omega⟩, B2.out⟩
              case measure => simp [intOf]; omega
          · have e1 : ((k : Int) == 1) = false := by simp; omega
            have e2 : ((k : Int) == 2) = true := by simp; omega
            obtain ⟨p, hp⟩ : ∃ p, eqL xs c = p := ⟨_, rfl⟩
            have hsame := l00Same_c O C l nc oc cc xs c _ (by exact hO.out.wr.rdI) (by exact HC.out.below HBS.out) (by omega)
            rw [hp] at hsame
            have HSA := Lib.hid hsame; have HP := Lib.hid hp
            clear hsame hp hbs hfx
            go_wp2_with fail
            clear d3 d4
            refine HSA.out.mono ?_
            rintro e w2 ⟨rfl, hq2⟩
            have B2 := Lib.hid (below_chain HBS.out hsz (hq2.below _))
            clear hq2 HSA
            cases p
            · have HN := Lib.hid (show false = q by
                have h1 : ¬ fullF 2 F = c := by
                  have := of_decide_eq_false HP.out
                  rw [← HS.out] at this
                  have hk : k = 2 := by omega
                  rwa [hk] at this
                rw [← HQ.out, fitF, decide_eq_false h1]; simp)
              go_wp2_with fail
              go_ret
              exact ⟨by rw [← HN.out]; rfl, B2.out⟩
            · have HT := Lib.hid (show fullF 2 F = c by
                have := of_decide_eq_true HP.out
                rw [← HS.out] at this
                have hk : k = 2 := by omega
                rwa [hk] at this)
              have v1 : IntKind.i64.wrap ((k : Int) + 1) = (k : Int) + 1 := IntWalk.i64_in _ (by omega)
              go_wp2_with fail
              go_roundw
              case rel => exact ⟨k + 1, by omega, by omega, by go_num, ⟨fun _ => hfq.out.1 (by omega), fun _ => HT.out⟩, B2.out⟩
              case measure => simp [intOf]; omega
    · have HS := Lib.hid (show true = q by rw [← HQ.out, fitF, decide_eq_true (hfq.out.1 (by omega)), decide_eq_true (hfq.out.2 (by omega))]; rfl)
      have k1 : decide ((k : Int) ≤ 2) = false := decide_eq_false (by omega)
      go_wp2_with fail
      go_ret
      exact ⟨by rw [← HS.out]; rfl, HBW.out⟩
end Go.Proofs.Ytmmgejnhfpfmnaa
