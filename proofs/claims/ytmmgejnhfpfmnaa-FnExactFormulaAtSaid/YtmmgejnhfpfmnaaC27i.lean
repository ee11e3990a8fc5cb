/-
  Contracts of chapter 27: the configuration of a formula tape (the program's).
-/
import Derived.Test.YtmmgejnhfpfmnaaC27h
import Derived.Test.YtmmgejnhfpfmnaaJoin
namespace Go.Proofs.Ytmmgejnhfpfmnaa
open Go.RowKit

/-- a configuration of the call's own and a code -/
def CfgOut2 (R : (Int × List Int × List Int) × Int) (w : World) (e : Ending) (w' : World) : Prop :=
  ∃ A n c B m d, e = .returned (.tuple #[.agg #[.int .i64 R.1.1, .slice A n c, .slice B m d], .int .i64 R.2]) ∧ WrS w' w.heap.size w'.heap.size ([sgI A n R.1.2.1] ++ [sgI B m R.1.2.2]) ∧ (n ≤ 1000000 ∧ m ≤ 1000000) ∧ Below w.heap.size w w'
theorem CfgOut2.bad {w w' : World} (k : Int) (h : Below w.heap.size w w') : CfgOut2 (zeroC, k) w (.returned (.tuple #[.agg #[i64 0, .slice none 0 0, .slice none 0 0], i64 k])) w' :=
  ⟨none, 0, 0, none, 0, 0, rfl, ⟨fun s hs => by rcases List.mem_append.1 hs with hs | hs <;> (rw [List.mem_singleton] at hs; subst hs; exact Wr.nil), by
    refine List.pairwise_append.2 ⟨List.pairwise_singleton _ _, List.pairwise_singleton _ _, fun s hs t ht a b ha hb hn hm => ?_⟩
    rw [List.mem_singleton] at hs; subst hs; simp [sgI] at ha⟩, ⟨by omega, by omega⟩, h⟩
theorem CfgOut2.of {w w1 : World} {s : Int} {L M : List Int} {A B : Option Addr} {n c m d g lo hi : Nat} {u0 u1 u2 : Value} (hS : WrS w1 lo hi ([sgI A n L] ++ [sgI B m M])) (hg : w.heap.size ≤ g) (hlo : w.heap.size ≤ lo) (hlt : g < lo) (hn : n ≤ 1000000) (hm : m ≤ 1000000) (hb : Below w.heap.size w w1) (hhi : hi ≤ w1.heap.size) :
    CfgOut2 ((s, L, M), 0) w (.returned (.tuple #[.agg #[i64 s, .slice A n c, .slice B m d], i64 0])) (((w1.setCell ⟨g, 0, none⟩ u0).setCell ⟨g, 1, none⟩ u1).setCell ⟨g, 2, none⟩ u2) :=
  ⟨A, n, c, B, m, d, rfl, by
    have := ((hS.set_far (p := ⟨g, 0, none⟩) (.inl hlt) u0).set_far (p := ⟨g, 1, none⟩) (.inl hlt) u1).set_far (p := ⟨g, 2, none⟩) (.inl hlt) u2
    exact this.wider hlo (by simpa using hhi), ⟨hn, hm⟩, ((hb.setCell (by exact hg) _).setCell (by exact hg) _).setCell (by exact hg) _⟩
/-- the front of a slice -/
def fTr (m : Nat) : MixA.Fact1 := fun l v _ _ _ => ∃ A n c, l.getD 0 undef = .slice A n c ∧ v = .slice A m c
theorem fTr_st (m : Nat) : MixA.Stab (fTr m) := fun _ _ _ _ _ _ _ h => h
def CiCut (B : Nat) (cs : List Int) (b : Nat) (w0 : World) (cv av : Value) (wx : World) : Prop :=
  ∃ ao l oc, cv = .slice (some ao) l oc ∧ av = .int .i64 b ∧ l = cs.length ∧ l ≤ oc ∧ RdI wx (some ao) l cs ∧ Below B w0 wx
theorem roomy_c (s : Int) (A : Option Addr) (n c : Nat) (B : Option Addr) (m d : Nat) (w : World) (hn : n ≤ 1000000000) (hm : m ≤ 1000000000) :
    Calls Try.prog 113 #[.agg #[.int .i64 s, .slice A n c, .slice B m d]] w fun e w' => e = .returned (.bool (decide ((n : Int) ≤ 200) && decide ((m : Int) ≤ 200))) ∧ Below w.heap.size w w' := by
  by_cases h1 : n ≤ 200
  · have e1 : decide ((n : Int) ≤ 200) = true := decide_eq_true (by omega)
    by_cases h2 : m ≤ 200
    · have e2 : decide ((m : Int) ≤ 200) = true := decide_eq_true (by omega)
      go_enter Try.func113, Try.ntmps113
      go_wp2_with fail
      go_ret
      exact ⟨by rw [e1, e2]; rfl, below_size.alloc (Nat.le_refl _) _⟩
    · have e2 : decide ((m : Int) ≤ 200) = false := decide_eq_false (by omega)
      go_enter Try.func113, Try.ntmps113
      go_wp2_with fail
      go_ret
      exact ⟨by rw [e1, e2]; rfl, below_size.alloc (Nat.le_refl _) _⟩
  · have e1 : decide ((n : Int) ≤ 200) = false := decide_eq_false (by omega)
    go_enter Try.func113, Try.ntmps113
    go_wp2_with fail
    go_ret
    exact ⟨by rw [e1]; rfl, below_size.alloc (Nat.le_refl _) _⟩
set_option maxHeartbeats 16000000 in
set_option maxRecDepth 100000 in
theorem formulaAt_c (sy st s hd a : Int) (AM : Option Addr) (nM cM : Nat) (A0 : Option Addr) (n0 c0 : Nat) (its0 : List It) (A1 : Option Addr) (n1 c1 : Nat) (its1 : List It) (A2 : Option Addr) (n2 c2 : Nat) (os : List Int) (C : Option Addr) (nc cc : Nat) (cs : List Int) (w : World)
    (h0 : RdS w (sgII A0 n0 its0)) (h1 : RdS w (sgII A1 n1 its1)) (h2 : RdI w A2 n2 os) (h' : RdI w C nc cs) (ok : FormOk sy st s hd a (its0.map It.xs) (its1.map It.xs) os) (hk : CntOk cs os (its1.map It.xs).length) :
    Calls Try.prog 71 #[.agg #[.int .i64 sy, .int .i64 st, .slice AM nM cM], .agg #[.int .i64 s, .int .i64 hd, .int .i64 a, .slice A0 n0 c0, .slice A1 n1 c1, .slice A2 n2 c2], .slice C nc cc] w (CfgOut2 (fatO s hd a (its0.map It.xs) (its1.map It.xs) os cs) w) := by
  have HL0 := Lib.hid (RdII.len h0); have HL1 := Lib.hid (RdII.len h1); have HL2 := Lib.hid h2.len; have HLC := Lib.hid h'.len
  obtain ⟨W, hW⟩ : ∃ W, its0.map It.xs = W := ⟨_, rfl⟩
  obtain ⟨RP, hRP⟩ : ∃ RP, its1.map It.xs = RP := ⟨_, rfl⟩
  rw [hW, hRP] at ok
  rw [hRP] at hk
  rw [hW, hRP]
  have HW := Lib.hid hW; have HRP := Lib.hid hRP
  have H0 := Lib.hid h0; have H1 := Lib.hid h1; have H2 := Lib.hid h2
  have H' := Lib.hid h'; have OK := Lib.hid ok; have HK := Lib.hid hk
  have hlw : W.length = n0 := by rw [← hW, List.length_map]; exact HL0.out
  have hlr : RP.length = n1 := by rw [← hRP, List.length_map]; exact HL1.out
  have HLW := Lib.hid hlw; have HLR := Lib.hid hlr
  have e1 : n0 ≤ n1 + 1 ∧ n1 + 1 ≤ n0 := by have := ok.nw; omega
  have e2 : n1 ≤ n2 ∧ n2 ≤ n1 := by have := ok.no; have := HL2.out; omega
  have e3 : n1 ≤ nc ∧ nc ≤ n1 := by have := hk.nc; have := HLC.out; omega
  have hr : 1 ≤ n1 ∧ n1 ≤ 3 := by have := ok.r; omega
  have ha : -1 ≤ a ∧ a ≤ 100 := by
    have h1 := ok.lo; have h2 := ok.hi; have h3 := ok.hhd; have h4 := ok.nw
    have h5 := (ok.w _ (mem_getD (x := W) (k := hd.toNat) (by omega))).1
    omega
  obtain ⟨hn, rfl⟩ := Int.eq_ofNat_of_zero_le ok.hhd.1
  have hhn : hn ≤ n1 := by have := ok.hhd; omega
  obtain ⟨KS, hK⟩ : ∃ KS, ksOf cs os = KS := ⟨_, rfl⟩
  have HPB := Lib.hid (show ∀ i, i ≤ n0 → (preC W RP KS i).length ≤ 100000 from fun i hi => by
    have h1 := preC_bd (ks := ksOf cs os) ok hk.ks i (by omega)
    rw [hK] at h1
    have h4 : i * 21380 ≤ 4 * 21380 := Nat.mul_le_mul_right _ (by omega)
    omega)
  have HAB := Lib.hid (show -1 ≤ atC hn a W RP KS ∧ atC hn a W RP KS ≤ (cellsC W RP KS).length by rw [← hK]; exact at_bd ok hk)
  have HKS := Lib.hid hK
  obtain ⟨w0, hw0⟩ : ∃ w0, (((w.alloc (.cells #[i64 sy, i64 st, .slice AM nM cM] 34)).alloc (.cells #[i64 s, i64 hn, i64 a, .slice A0 n0 c0, .slice A1 n1 c1, .slice A2 n2 c2] 29)).alloc (.cells #[i64 0, .slice none 0 0, .slice none 0 0] 59)).alloc (.cells #[] 2) = w0 := ⟨_, rfl⟩
  obtain ⟨_, b1, b2⟩ := boxes3 w #[i64 sy, i64 st, .slice AM nM cM] #[i64 s, i64 hn, i64 a, .slice A0 n0 c0, .slice A1 n1 c1, .slice A2 n2 c2] #[i64 0, .slice none 0 0, .slice none 0 0] 34 29 59
  have F0 := Lib.hid (show Blk w0 (w.heap.size + 1) 29 #[i64 s, i64 hn, i64 a, .slice A0 n0 c0, .slice A1 n1 c1, .slice A2 n2 c2] by rw [← hw0]; exact b1.alloc _)
  have Z0 := Lib.hid (show Blk w0 (w.heap.size + 2) 59 #[i64 0, .slice none 0 0, .slice none 0 0] by rw [← hw0]; exact b2.alloc _)
  have BZ := Lib.hid (show Below w.heap.size w w0 by rw [← hw0]; exact (((below_size.alloc (Nat.le_refl _) _).alloc (by simp) _).alloc (by simp; omega) _).alloc (by simp; omega) _)
  have O0 := Lib.hid (show Own w0 (w.heap.size + 3) 2 1 (some ⟨w.heap.size + 3, 0, none⟩) 0 0 [] by
    have := Own.lit (w := ((w.alloc (.cells #[i64 sy, i64 st, .slice AM nM cM] 34)).alloc (.cells #[i64 s, i64 hn, i64 a, .slice A0 n0 c0, .slice A1 n1 c1, .slice A2 n2 c2] 29)).alloc (.cells #[i64 0, .slice none 0 0, .slice none 0 0] 59)) (B := w.heap.size + 3) (e := 2) (by simp)
    rw [← hw0]; simpa using this)
  have hz0 : w.heap.size + 3 ≤ w0.heap.size := by rw [← hw0]; simp
  clear h0 h1 h2 h' ok hk hW hRP hlw hlr hK b1 b2
  have d3 := F0.out.cell 3
  simp at d3
  go_enter Try.func71, Try.ntmps71
  go_wp2_with fail
  clear hw0 d3
  go_loopw [8, 9, 17] (fun cv av iv wr => ∃ (k : Nat) (ao : Addr) (l oc : Nat) (b : Int), k ≤ n0 ∧ iv = .int .i64 k ∧ cv = .slice (some ao) l oc ∧ av = .int .i64 b ∧ Hid ((preC W RP KS k).length = l) ∧ Hid (b = if hn < k then atC hn a W RP KS else 0) ∧
    Hid (Own wr (w.heap.size + 3) 2 1 (some ao) l oc ((preC W RP KS k).map i64)) ∧ Below (w.heap.size + 3) w0 wr) (fun _ _ iv _ => n0 - (intOf iv).toNat)
  case atStart => exact ⟨0, _, 0, 0, 0, by omega, rfl, rfl, rfl, rfl, by unfold Hid; rw [if_neg (by omega)], O0.out, Below.refl _ _⟩
  case round =>
    obtain ⟨k, ao, l, oc, b, hkn, rfl, rfl, rfl, hl, hb', hO, hbw⟩ := hrel
    have HBZ := Lib.hid hbw
    have HBW := Lib.hid (BZ.out.trans (hbw.mono (by omega)))
    have hwz : w.heap.size + 3 ≤ wr.heap.size := Nat.le_trans hz0 hbw.size
    have FR := Lib.hid (F0.out.below hbw (by omega)); have ZR := Lib.hid (Z0.out.below hbw (by omega))
    have hlb : l ≤ 100000 := by have := HPB.out k hkn; have := hl.out; omega
    have d1 := FR.out.cell 1; have d2 := FR.out.cell 2; have d4 := FR.out.cell 4; have d5 := FR.out.cell 5
    simp at d1 d2 d4 d5
    by_cases hlt : k < n0
    · obtain ⟨ad0, t, rfl, _, ht, hct, hrt⟩ := RdII.at_ (H0.out.below HBW.out) hlt
      have htl := RdII.size (H0.out.below HBW.out) (List.mem_of_getElem? ht)
      have HT := Lib.hid (show RdI wr t.A t.n t.xs from hrt.head)
      have hwt : W.getD k [] = t.xs := by rw [← HW.out, List.getD_eq_getElem?_getD, List.getElem?_map, ht]; rfl
      have htn : t.n ≤ 100 := by rw [← htl, ← hwt]; exact (OK.out.w _ (mem_getD (by rw [HLW.out]; exact hlt))).1
      have HWT := Lib.hid hwt; have HTL := Lib.hid htl
      obtain ⟨b2, hb2⟩ : ∃ b2 : Int, (if k = hn then a + l else b) = b2 := ⟨_, rfl⟩
      have HB2 := Lib.hid (show b2 = if hn < k + 1 then atC hn a W RP KS else 0 by
        rw [← hb2, hb'.out]
        by_cases e : k = hn
        · subst e
          rw [if_pos rfl, if_pos (by omega), atC, Int.toNat_natCast, hl.out]
        · rw [if_neg e]
          by_cases h1 : hn < k
          · rw [if_pos h1, if_pos (by omega)]
          · rw [if_neg h1, if_neg (by omega)])
      have HB2' := Lib.hid hb2
      clear hrt ht hwt htl hbw hb2
      have fin : ∀ (w3 : World) (A3 : Option Addr) (l3 oc3 : Nat) (y : List Int), Own w3 (w.heap.size + 3) 2 1 A3 l3 oc3 (((preC W RP KS k).map i64 ++ t.xs.map i64) ++ y.map i64) → y = (if k < RP.length then repN (KS.getD k 0) (RP.getD k []) else []) → Own w3 (w.heap.size + 3) 2 1 A3 l3 oc3 ((preC W RP KS (k + 1)).map i64) := by
        intro w3 A3 l3 oc3 y h1 h2
        rw [preC, HWT.out, ← h2, List.map_append, List.map_append, ← List.append_assoc]; exact h1
      have FIN := Lib.hid fin; clear fin
      by_cases ek : k = hn
      · have eb : ((k : Int) == (hn : Int)) = true := by simp; omega
        have hbe : a + l = b2 := by rw [← HB2'.out, if_pos ek]
        have HBE := Lib.hid hbe
        have hbe2 : (l : Int) + a = b2 := by omega
        have HBE2 := Lib.hid hbe2
        clear hbe2
        clear ek hbe
        by_cases hl1 : k < n1
        · skip
          obtain ⟨ad1, u, rfl, _, hu, hcu, hru⟩ := RdII.at_ (H1.out.below HBW.out) hl1
          have hul := RdII.size (H1.out.below HBW.out) (List.mem_of_getElem? hu)
          have hwu : RP.getD k [] = u.xs := by rw [← HRP.out, List.getD_eq_getElem?_getD, List.getElem?_map, hu]; rfl
          have hun : 1 ≤ u.n ∧ u.n ≤ 20 := by rw [← hul, ← hwu]; have := OK.out.p _ (mem_getD (x := RP) (k := k) (by rw [HLR.out]; exact hl1)); exact ⟨this.1, this.2.1⟩
          obtain ⟨adc, x, rfl, _, hx, hcx⟩ := (H'.out.below HBW.out).at_ (k := k) (by omega)
          obtain ⟨ado, o, rfl, _, ho, hco⟩ := (H2.out.below HBW.out).at_ (k := k) (by omega)
          have hxo := HK.out.le k x o hx ho
          obtain ⟨kk, hkk⟩ : ∃ kk : Nat, (kk : Int) = x + o := ⟨(x + o).toNat, by omega⟩
          have hkb : kk ≤ 1064 := by omega
          have HY := Lib.hid (show repN kk u.xs = if k < RP.length then repN (KS.getD k 0) (RP.getD k []) else [] by rw [if_pos (by rw [HLR.out]; exact hl1), hwu, ← HKS.out, ksOf_at hx ho, ← hkk, Int.toNat_natCast])
          have HYL := Lib.hid (show (repN kk u.xs).length ≤ 21280 by rw [repN_len, hul]; exact Nat.le_trans (Nat.mul_le_mul hkb hun.2) (by omega))
          obtain ⟨au, hau⟩ : ∃ au, u.A = some au := by obtain ⟨au, e, _⟩ := (show RdI wr u.A u.n u.xs from hru.head).2 (by omega); exact ⟨au, e⟩
          have HU := Lib.hid (show RdI wr (some au) u.n u.xs by rw [← hau]; exact hru.head)
          have vx : IntKind.i64.wrap (x + o) = (kk : Int) := (IntWalk.i64_in _ (by omega)).trans hkk.symm
          have hkl : k < nc ∧ k < n2 := by omega
          rw [hau] at hcu
          have HAU := Lib.hid (show au.block < w.heap.size + 3 by obtain ⟨ax, ex, hx, _⟩ := (show RdI w u.A u.n u.xs from H1.out.tail (bodyI u) (List.mem_map_of_mem (List.mem_of_getElem? hu))).2 (by omega); rw [hau] at ex; injection ex with ex; subst ex; omega)
          have HCU := Lib.hid hcu; have HCX := Lib.hid hcx; have HCO := Lib.hid hco
          have bu := World.block_lt_of_cell? wr _ hcu; have bx := World.block_lt_of_cell? wr _ hcx; have bo := World.block_lt_of_cell? wr _ hco
          have hq1 := (Rd.blocks (show Rd w (some ad1) n1 (its1.map hdI) from H1.out.head) ad1 (by omega) rfl)
          have hq2 := (Rd.blocks (show Rd w (some adc) nc (cs.map i64) from H'.out) adc (by omega) rfl)
          have hq3 := (Rd.blocks (show Rd w (some ado) n2 (os.map i64) from H2.out) ado (by omega) rfl)
          clear hru hu hul hwu hx ho hxo hkk hau hcu hcx hco bu bx bo
          go_wp2_with (at_builtin; refine wp_appA (by rfl) _ _ (by rfl) (w.heap.size + 3) (some ao) l oc ((preC W RP KS k).map i64) (by rfl) (by exact hO.out) t.A t.n t.c t.xs (by rfl) (by exact HT.out) (by omega) hwz ?_; intro A2' cap w2 own2 hb2 hk2 hg2 hz2; have q4 := keepB hb2 (show (⟨w.heap.size + 1, 4, none⟩ : Addr).block < w.heap.size + 3 by simp) d4)
          obtain ⟨a2, rfl⟩ := some_of hg2
          have O2 := Lib.hid own2
          have B2 := Lib.hid (HBZ.out.trans hb2)
          clear hk2 hg2 own2
          have p4 := q4
          have p5 := keepB hb2 (show (⟨w.heap.size + 1, 5, none⟩ : Addr).block < w.heap.size + 3 by simp) d5
          have hcu2 := keepB hb2 (show (ad1.add k).block < w.heap.size + 3 by rw [block_add]; omega) HCU.out
          have hcx2 := keepB hb2 (show (adc.add k).block < w.heap.size + 3 by rw [block_add]; omega) HCX.out
          have hco2 := keepB hb2 (show (ado.add k).block < w.heap.size + 3 by rw [block_add]; omega) HCO.out
          have HU2 := Lib.hid (show RdI w2 (some au) u.n u.xs from Rd.belowB HU.out (fun ad _ e => by injection e with e; subst e; exact HAU.out) hb2)
          clear hct d1 d2 d4 d5 q4
          have y0 := Ext.cell p4; have y1 := Ext.cell hcu2; have y2 := Ext.cell hcx2; have y3 := Ext.cell p5; have y4 := Ext.cell hco2
          go_wp2_with fail
          refine Mix.wp_region_mix [0, 0, 3, 0, 0, 3, 0, 0, 0, 3, 0, 3, 0, 0, 3, 0, 1, 2, 0] (fun w' => ∃ x : Ext w2, w' = x.w) (by kernel_rfl) (by kernel_rfl) (InExt.drew _) ?_
          repeat (first | (refine Mix.wpMix_read (by rfl) ?_; go_big_quiet_step (fail); refine wpQuiet_nil ?_) | (refine Mix.wpMix_pure (by rfl) ?_; go_big_quiet_step (fail); refine wpQuiet_nil ?_))
          refine Mix.wpMix_chg (by rfl) (fun K hK => ?_)
          go_wp2_with fail
          refine (repeatL_c au u.n u.c u.xs kk _ (by exact HU2.out) (by omega) (by omega)).mono ?_
          rintro e w3 ⟨g4, n4, rfl, hn4, hR4, hb4⟩
          have e4 := below_of_drew hb4
          have HR4 := Lib.hid (show RdI w3 (some ⟨g4, 0, none⟩) n4 (repN kk u.xs) from hR4.rd); have E4 := Lib.hid e4
          have h4l : n4 ≤ 21280 := by have h1 := HR4.out.len; have h2 := HYL.out; omega
          have O3 := Lib.hid (O2.out.keep e4)
          have hz3 := e4.size
          clear hb4 hR4 hn4
          go_wp2_with fail
          refine hK _ _ ⟨⟨_, e4⟩, rfl⟩ ?_
          clear hK K
          clear y0 y1 y2 y3 y4 vx
          repeat (first | (refine Mix.wpMix_read (by rfl) ?_; go_big_quiet_step (fail); refine wpQuiet_nil ?_) | (refine Mix.wpMix_pure (by rfl) ?_; go_big_quiet_step (fail); refine wpQuiet_nil ?_))
          refine Mix.wpMix_tail (by rfl) (fun K hK => ?_)
          refine wp_appA (by rfl) _ _ (by rfl) (w.heap.size + 3) (some a2) (l + t.n) cap ((preC W RP KS k).map i64 ++ t.xs.map i64) (by rfl) (by exact O3.out) (some ⟨g4, 0, none⟩) n4 n4 (repN kk u.xs) (by rfl) (by exact HR4.out) (by omega) (by omega) ?_
          intro A5 cap5 w5 own5 hb5 hk5 hg5 hz5
          obtain ⟨a5, rfl⟩ := some_of hg5
          have O5 := Lib.hid (FIN.out _ _ _ _ _ own5 HY.out)
          have B5 := Lib.hid (B2.out.trans ((E4.out.mono (by omega)).trans hb5))
          have LEN := Lib.hid (show (preC W RP KS (k + 1)).length = l + t.n + n4 by have h1 := O5.out.len; simpa using h1)
          clear own5 hb5 hk5 hg5 hb2
          go_wp2_with fail
          refine hK _ _ ?_
          clear hK K
          repeat (first | (refine Mix.wpMix_read (by rfl) ?_; go_big_quiet_step (fail); refine wpQuiet_nil ?_) | (refine Mix.wpMix_pure (by rfl) ?_; go_big_quiet_step (fail); refine wpQuiet_nil ?_))
          (refine Mix.wpMix_nil ?_; try simp only [Exit.then])
          go_wp2_with fail
          go_roundw
          case rel => exact ⟨k + 1, a5, l + t.n + n4, cap5, b2, by omega, by go_num, rfl, by rw [← HBE2.out], LEN.out, HB2.out, O5.out, B5.out⟩
          case measure => simp [intOf]; omega
        · skip
          have HY := Lib.hid (show ([] : List Int) = if k < RP.length then repN (KS.getD k 0) (RP.getD k []) else [] by rw [if_neg (by rw [HLR.out]; exact hl1)])
          go_wp2_with (at_builtin; refine wp_appA (by rfl) _ _ (by rfl) (w.heap.size + 3) (some ao) l oc ((preC W RP KS k).map i64) (by rfl) (by exact hO.out) t.A t.n t.c t.xs (by rfl) (by exact HT.out) (by omega) hwz ?_; intro A2' cap w2 own2 hb2 hk2 hg2 hz2; have q4 := keepB hb2 (show (⟨w.heap.size + 1, 4, none⟩ : Addr).block < w.heap.size + 3 by simp) d4)
          obtain ⟨a2, rfl⟩ := some_of hg2
          have O2 := Lib.hid own2
          have B2 := Lib.hid (HBZ.out.trans hb2)
          clear hk2 hg2 own2
          have O5 := Lib.hid (FIN.out _ _ _ _ [] (by simpa using O2.out) HY.out)
          have LEN := Lib.hid (show (preC W RP KS (k + 1)).length = l + t.n by have h1 := O5.out.len; simpa using h1)
          clear hct d1 d2 d4 d5 hb2
          go_wp2_with fail
          go_roundw
          case rel => exact ⟨k + 1, a2, l + t.n, cap, b2, by omega, by go_num, rfl, by rw [← HBE2.out], LEN.out, HB2.out, O5.out, B2.out⟩
          case measure => simp [intOf]; omega
      · have eb : ((k : Int) == (hn : Int)) = false := by simp; omega
        have hbe : b = b2 := by rw [← HB2'.out, if_neg ek]
        have HBE := Lib.hid hbe
        clear ek hbe
        by_cases hl1 : k < n1
        · skip
          obtain ⟨ad1, u, rfl, _, hu, hcu, hru⟩ := RdII.at_ (H1.out.below HBW.out) hl1
          have hul := RdII.size (H1.out.below HBW.out) (List.mem_of_getElem? hu)
          have hwu : RP.getD k [] = u.xs := by rw [← HRP.out, List.getD_eq_getElem?_getD, List.getElem?_map, hu]; rfl
          have hun : 1 ≤ u.n ∧ u.n ≤ 20 := by rw [← hul, ← hwu]; have := OK.out.p _ (mem_getD (x := RP) (k := k) (by rw [HLR.out]; exact hl1)); exact ⟨this.1, this.2.1⟩
          obtain ⟨adc, x, rfl, _, hx, hcx⟩ := (H'.out.below HBW.out).at_ (k := k) (by omega)
          obtain ⟨ado, o, rfl, _, ho, hco⟩ := (H2.out.below HBW.out).at_ (k := k) (by omega)
          have hxo := HK.out.le k x o hx ho
          obtain ⟨kk, hkk⟩ : ∃ kk : Nat, (kk : Int) = x + o := ⟨(x + o).toNat, by omega⟩
          have hkb : kk ≤ 1064 := by omega
          have HY := Lib.hid (show repN kk u.xs = if k < RP.length then repN (KS.getD k 0) (RP.getD k []) else [] by rw [if_pos (by rw [HLR.out]; exact hl1), hwu, ← HKS.out, ksOf_at hx ho, ← hkk, Int.toNat_natCast])
          have HYL := Lib.hid (show (repN kk u.xs).length ≤ 21280 by rw [repN_len, hul]; exact Nat.le_trans (Nat.mul_le_mul hkb hun.2) (by omega))
          obtain ⟨au, hau⟩ : ∃ au, u.A = some au := by obtain ⟨au, e, _⟩ := (show RdI wr u.A u.n u.xs from hru.head).2 (by omega); exact ⟨au, e⟩
          have HU := Lib.hid (show RdI wr (some au) u.n u.xs by rw [← hau]; exact hru.head)
          have vx : IntKind.i64.wrap (x + o) = (kk : Int) := (IntWalk.i64_in _ (by omega)).trans hkk.symm
          have hkl : k < nc ∧ k < n2 := by omega
          rw [hau] at hcu
          have HAU := Lib.hid (show au.block < w.heap.size + 3 by obtain ⟨ax, ex, hx, _⟩ := (show RdI w u.A u.n u.xs from H1.out.tail (bodyI u) (List.mem_map_of_mem (List.mem_of_getElem? hu))).2 (by omega); rw [hau] at ex; injection ex with ex; subst ex; omega)
          have HCU := Lib.hid hcu; have HCX := Lib.hid hcx; have HCO := Lib.hid hco
          have bu := World.block_lt_of_cell? wr _ hcu; have bx := World.block_lt_of_cell? wr _ hcx; have bo := World.block_lt_of_cell? wr _ hco
          have hq1 := (Rd.blocks (show Rd w (some ad1) n1 (its1.map hdI) from H1.out.head) ad1 (by omega) rfl)
          have hq2 := (Rd.blocks (show Rd w (some adc) nc (cs.map i64) from H'.out) adc (by omega) rfl)
          have hq3 := (Rd.blocks (show Rd w (some ado) n2 (os.map i64) from H2.out) ado (by omega) rfl)
          clear hru hu hul hwu hx ho hxo hkk hau hcu hcx hco bu bx bo
          go_wp2_with (at_builtin; refine wp_appA (by rfl) _ _ (by rfl) (w.heap.size + 3) (some ao) l oc ((preC W RP KS k).map i64) (by rfl) (by exact hO.out) t.A t.n t.c t.xs (by rfl) (by exact HT.out) (by omega) hwz ?_; intro A2' cap w2 own2 hb2 hk2 hg2 hz2; have q4 := keepB hb2 (show (⟨w.heap.size + 1, 4, none⟩ : Addr).block < w.heap.size + 3 by simp) d4)
          obtain ⟨a2, rfl⟩ := some_of hg2
          have O2 := Lib.hid own2
          have B2 := Lib.hid (HBZ.out.trans hb2)
          clear hk2 hg2 own2
          have p4 := q4
          have p5 := keepB hb2 (show (⟨w.heap.size + 1, 5, none⟩ : Addr).block < w.heap.size + 3 by simp) d5
          have hcu2 := keepB hb2 (show (ad1.add k).block < w.heap.size + 3 by rw [block_add]; omega) HCU.out
          have hcx2 := keepB hb2 (show (adc.add k).block < w.heap.size + 3 by rw [block_add]; omega) HCX.out
          have hco2 := keepB hb2 (show (ado.add k).block < w.heap.size + 3 by rw [block_add]; omega) HCO.out
          have HU2 := Lib.hid (show RdI w2 (some au) u.n u.xs from Rd.belowB HU.out (fun ad _ e => by injection e with e; subst e; exact HAU.out) hb2)
          clear hct d1 d2 d4 d5 q4
          have y0 := Ext.cell p4; have y1 := Ext.cell hcu2; have y2 := Ext.cell hcx2; have y3 := Ext.cell p5; have y4 := Ext.cell hco2
          go_wp2_with fail
          refine Mix.wp_region_mix [0, 0, 3, 0, 0, 3, 0, 0, 0, 3, 0, 3, 0, 0, 3, 0, 1, 2, 0] (fun w' => ∃ x : Ext w2, w' = x.w) (by kernel_rfl) (by kernel_rfl) (InExt.drew _) ?_
          repeat (first | (refine Mix.wpMix_read (by rfl) ?_; go_big_quiet_step (fail); refine wpQuiet_nil ?_) | (refine Mix.wpMix_pure (by rfl) ?_; go_big_quiet_step (fail); refine wpQuiet_nil ?_))
          refine Mix.wpMix_chg (by rfl) (fun K hK => ?_)
          go_wp2_with fail
          refine (repeatL_c au u.n u.c u.xs kk _ (by exact HU2.out) (by omega) (by omega)).mono ?_
          rintro e w3 ⟨g4, n4, rfl, hn4, hR4, hb4⟩
          have e4 := below_of_drew hb4
          have HR4 := Lib.hid (show RdI w3 (some ⟨g4, 0, none⟩) n4 (repN kk u.xs) from hR4.rd); have E4 := Lib.hid e4
          have h4l : n4 ≤ 21280 := by have h1 := HR4.out.len; have h2 := HYL.out; omega
          have O3 := Lib.hid (O2.out.keep e4)
          have hz3 := e4.size
          clear hb4 hR4 hn4
          go_wp2_with fail
          refine hK _ _ ⟨⟨_, e4⟩, rfl⟩ ?_
          clear hK K
          clear y0 y1 y2 y3 y4 vx
          repeat (first | (refine Mix.wpMix_read (by rfl) ?_; go_big_quiet_step (fail); refine wpQuiet_nil ?_) | (refine Mix.wpMix_pure (by rfl) ?_; go_big_quiet_step (fail); refine wpQuiet_nil ?_))
          refine Mix.wpMix_tail (by rfl) (fun K hK => ?_)
          refine wp_appA (by rfl) _ _ (by rfl) (w.heap.size + 3) (some a2) (l + t.n) cap ((preC W RP KS k).map i64 ++ t.xs.map i64) (by rfl) (by exact O3.out) (some ⟨g4, 0, none⟩) n4 n4 (repN kk u.xs) (by rfl) (by exact HR4.out) (by omega) (by omega) ?_
          intro A5 cap5 w5 own5 hb5 hk5 hg5 hz5
          obtain ⟨a5, rfl⟩ := some_of hg5
          have O5 := Lib.hid (FIN.out _ _ _ _ _ own5 HY.out)
          have B5 := Lib.hid (B2.out.trans ((E4.out.mono (by omega)).trans hb5))
          have LEN := Lib.hid (show (preC W RP KS (k + 1)).length = l + t.n + n4 by have h1 := O5.out.len; simpa using h1)
          clear own5 hb5 hk5 hg5 hb2
          go_wp2_with fail
          refine hK _ _ ?_
          clear hK K
          repeat (first | (refine Mix.wpMix_read (by rfl) ?_; go_big_quiet_step (fail); refine wpQuiet_nil ?_) | (refine Mix.wpMix_pure (by rfl) ?_; go_big_quiet_step (fail); refine wpQuiet_nil ?_))
          (refine Mix.wpMix_nil ?_; try simp only [Exit.then])
          go_wp2_with fail
          go_roundw
          case rel => exact ⟨k + 1, a5, l + t.n + n4, cap5, b2, by omega, by go_num, rfl, by rw [← HBE.out], LEN.out, HB2.out, O5.out, B5.out⟩
          case measure => simp [intOf]; omega
        · skip
          have HY := Lib.hid (show ([] : List Int) = if k < RP.length then repN (KS.getD k 0) (RP.getD k []) else [] by rw [if_neg (by rw [HLR.out]; exact hl1)])
          go_wp2_with (at_builtin; refine wp_appA (by rfl) _ _ (by rfl) (w.heap.size + 3) (some ao) l oc ((preC W RP KS k).map i64) (by rfl) (by exact hO.out) t.A t.n t.c t.xs (by rfl) (by exact HT.out) (by omega) hwz ?_; intro A2' cap w2 own2 hb2 hk2 hg2 hz2; have q4 := keepB hb2 (show (⟨w.heap.size + 1, 4, none⟩ : Addr).block < w.heap.size + 3 by simp) d4)
          obtain ⟨a2, rfl⟩ := some_of hg2
          have O2 := Lib.hid own2
          have B2 := Lib.hid (HBZ.out.trans hb2)
          clear hk2 hg2 own2
          have O5 := Lib.hid (FIN.out _ _ _ _ [] (by simpa using O2.out) HY.out)
          have LEN := Lib.hid (show (preC W RP KS (k + 1)).length = l + t.n by have h1 := O5.out.len; simpa using h1)
          clear hct d1 d2 d4 d5 hb2
          go_wp2_with fail
          go_roundw
          case rel => exact ⟨k + 1, a2, l + t.n, cap, b2, by omega, by go_num, rfl, by rw [← HBE.out], LEN.out, HB2.out, O5.out, B2.out⟩
          case measure => simp [intOf]; omega
    · obtain rfl : k = n0 := by omega
      have HBA := Lib.hid (show b = atC hn a W RP KS by rw [hb'.out, if_pos (by omega)])
      have HLL0 := Lib.hid (show (cellsC W RP KS).length = l by unfold cellsC; rw [HLW.out]; exact hl.out)
      have HOO := Lib.hid (show Own wr (w.heap.size + 3) 2 1 (some ao) l oc ((cellsC W RP KS).map i64) by unfold cellsC; rw [HLW.out]; exact hO.out)
      have hbr : -1 ≤ b ∧ b ≤ l := by have h1 := HBA.out; have h2 := HAB.out; have h3 := HLL0.out; omega
      obtain ⟨CS, hCS⟩ : ∃ CS, cellsC W RP KS = CS := ⟨_, rfl⟩
      obtain ⟨D0, hD⟩ : ∃ D0, cfgF s (hn : Int) a W RP KS = D0 := ⟨_, rfl⟩
      have HDC := Lib.hid hD
      have HD0 := Lib.hid (show D0 = (s, cutL CS b, cutR CS b) by rw [← hD, cfgF, hCS, HBA.out])
      rw [hCS] at HLL0 HOO
      clear hb' hl hO HAB HBA HPB hCS hD d1 d2 d4 d5 hbw
      obtain ⟨c5, b5, hcb⟩ : ∃ (c1 : List Int) (b1 : Nat), (b < 0 → c1 = 0 :: CS ∧ b1 = 0) ∧ (0 ≤ b → c1 = CS ∧ b1 = b.toNat) := by
        by_cases h : b < 0
        · exact ⟨0 :: CS, 0, fun _ => ⟨rfl, rfl⟩, fun h' => by omega⟩
        · exact ⟨CS, b.toNat, fun h' => absurd h' h, fun _ => ⟨rfl, rfl⟩⟩
      have HCB := Lib.hid hcb; clear hcb
      go_upto_if 59 with (fail)
      go_cut [8, 9] (fun cv av wx => CiCut (w.heap.size + 3) c5 b5 wr cv av wx)
      case first =>
        by_cases hneg : b < 0
        · obtain ⟨hc1, hb1⟩ := HCB.out.1 hneg
          have kneg : decide (b < 0) = true := decide_eq_true hneg
          have HC1 := Lib.hid hc1; have HB1 := Lib.hid hb1
          obtain ⟨wq, hwq⟩ : ∃ wq, (wr.alloc (.cells #[i64 0] 2)).alloc (.cells #[.slice (some ⟨wr.heap.size, 0, none⟩) 1 1, .slice (some ao) l oc] 25) = wq := ⟨_, rfl⟩
          have EQ := Lib.hid (show Below wr.heap.size wr wq by rw [← hwq]; exact (below_size.alloc (Nat.le_refl _) _).alloc (by simp) _)
          have hy : RdI wq (some ⟨wr.heap.size, 0, none⟩) 1 [0] := by rw [← hwq]; exact ((Blk.new wr 2 #[i64 0]).alloc _).rd rfl (by simp)
          have RV := Lib.hid (rdV2 (w := wq) (g := wr.heap.size + 1) (t := 25) (by rw [← hwq]; have := Blk.new (wr.alloc (.cells #[i64 0] 2)) 25 #[.slice (some ⟨wr.heap.size, 0, none⟩) 1 1, .slice (some ao) l oc]; simpa using this) hy ((own_rd HOO.out).below EQ.out))
          clear hc1 hb1 hy
          go_wp2_with fail
          refine (joined_c _ 2 2 _ _ (by exact RV.out) (by omega) (by simp [sumV]; omega)).mono ?_
          rintro e w3 ⟨A3, cap, rfl, hw3, hc3, hb3⟩
          have hl3 : sumV [⟨some ⟨wr.heap.size, 0, none⟩, 1, 1, [(0 : Int)].map i64⟩, ⟨some ao, l, oc, CS.map i64⟩] = 1 + l := by simp [sumV]
          rw [hl3, Nat.mul_one] at hw3
          rw [hl3] at hc3
          rw [hl3]
          obtain ⟨a3, rfl, _⟩ := hw3.2 (by omega)
          have W3 := Lib.hid (show RdI w3 (some a3) (1 + l) (0 :: CS) by have h := hw3.rd; simpa [RdI] using h)
          have B3 := Lib.hid (show Below (w.heap.size + 3) wr w3 from (below_chain EQ.out EQ.out.size hb3).mono hwz)
          clear hw3 hb3 hwq hl3
          go_wp2_with fail
          go_meet
          exact ⟨a3, 1 + l, cap, rfl, by rw [HB1.out]; rfl, by rw [HC1.out, List.length_cons, HLL0.out]; omega, hc3, by rw [HC1.out]; exact W3.out, B3.out⟩
        · obtain ⟨hc1, hb1⟩ := HCB.out.2 (by omega)
          have kneg : decide (b < 0) = false := decide_eq_false hneg
          have HC1 := Lib.hid hc1; have HB1 := Lib.hid hb1
          clear hc1 hb1
          go_wp2_with fail
          go_meet
          exact ⟨ao, l, oc, rfl, by rw [HB1.out, Int.toNat_of_nonneg (by omega)], by rw [HC1.out, HLL0.out], HOO.out.cap, by rw [HC1.out]; exact own_rd HOO.out, Below.refl _ _⟩
      case rest =>
        obtain ⟨ao, l5, oc5, rfl, rfl, hl5, hcap, hR5, hB5⟩ := hcut
        have HBW := Lib.hid (HBW.out.trans (hB5.mono (by omega)))
        have HFR := Lib.hid (FR.out.below hB5 (by omega)); have HZC := Lib.hid (ZR.out.below hB5 (by omega))
        have hwc := hB5.size
        have hbl5 : b5 ≤ l5 := by
          rcases (show b < 0 ∨ 0 ≤ b by omega) with h | h
          · have := HCB.out.1 h; rw [hl5, this.1, List.length_cons, HLL0.out]; omega
          · have := HCB.out.2 h; rw [hl5, this.1, HLL0.out]; omega
        have hl5b : l5 ≤ 200000 := by
          rcases (show b < 0 ∨ 0 ≤ b by omega) with h | h
          · have := HCB.out.1 h; rw [hl5, this.1, List.length_cons, HLL0.out]; omega
          · have := HCB.out.2 h; rw [hl5, this.1, HLL0.out]; omega
        have HD := Lib.hid (show D0 = (s, trimL (c5.take b5).reverse, trimL (c5.drop b5)) by
          rw [HD0.out]
          rcases (show b < 0 ∨ 0 ≤ b by omega) with h | h
          · obtain ⟨e1, e2⟩ := HCB.out.1 h
            rw [e1, e2, cutL, cutR, if_pos h, if_pos h]; rfl
          · obtain ⟨e1, e2⟩ := HCB.out.2 h
            rw [cutL, cutR, if_neg (by omega), if_neg (by omega), ← e2, e1])
        have HRD := Lib.hid hR5
        have HD0' := Lib.hid (show wc.cell? ⟨w.heap.size + 1, 0, none⟩ = some (i64 s) by have := HFR.out.cell 0; simpa using this)
        have HL5 := Lib.hid hl5
        clear hl5 hR5 hB5 HCB
        have EW : ∀ w1, Below wc.drew.heap.size wc.drew w1 → Below wc.heap.size wc w1 := fun w1 hb => below_of_drew hb
        by_cases hbo : b5 < oc5
        · go_wp2_with fail
          refine MixA.wp_facts 14 [64, 65, 66, 67, 68, 69, 70, 71, 72, 73, 74, 75, 76, 12] [[], [0], [], [], [2, 3], [4], [5], [], [], [7, 8], [9], [10], [1, 6, 11], []]
            [MixA.fP (.pointer (some ⟨w.heap.size + 1, 0, none⟩)),
             MixA.fP (.int .i64 s),
             MixA.fP (.slice (some ao) l5 oc5),
             MixA.fP (.int .i64 b5),
             MixA.fP (.slice (some ao) b5 oc5),
             fOc b5 ((c5.take b5).reverse),
             fTr (trimL (c5.take b5).reverse).length,
             MixA.fP (.slice (some ao) l5 oc5),
             MixA.fP (.int .i64 b5),
             MixA.fP (.slice (some (ao.add b5)) (l5 - b5) (oc5 - b5)),
             fOc (l5 - b5) (c5.drop b5),
             fTr (trimL (c5.drop b5)).length,
             fA3,
             MixA.fB 59 #[i64 0, .slice none 0 0, .slice none 0 0]]
            (by kernel_rfl) (by kernel_rfl) (fun t ht => Nat.lt_of_lt_of_eq (show t < 82 by revert t; decide) rfl) ?_ ?_
          · intro f hf
            simp only [List.mem_cons, List.not_mem_nil, or_false] at hf
            rcases hf with rfl | rfl | rfl | rfl | rfl | rfl | rfl | rfl | rfl | rfl | rfl | rfl | rfl | rfl
            · exact MixA.fP_st _
            · exact MixA.fP_st _
            · exact MixA.fP_st _
            · exact MixA.fP_st _
            · exact MixA.fP_st _
            · exact fOc_st _ _
            · exact fTr_st _
            · exact MixA.fP_st _
            · exact MixA.fP_st _
            · exact MixA.fP_st _
            · exact fOc_st _ _
            · exact fTr_st _
            · exact fA3_st
            · exact MixA.fB_st _ _
          simp only [MixA.EachF]
          refine ⟨?_, ?_, ?_, ?_, ?_, ?_, ?_, ?_, ?_, ?_, ?_, ?_, ?_, ?_, ?_⟩
          · intro a1 w1 hf
            refine MixA.hop ⟨#[undef, undef, undef, undef, (.pointer (some ⟨w.heap.size + 1, 0, none⟩)), undef, undef, undef, undef, undef, undef, undef, undef, undef, undef, undef, undef, undef, undef, undef, undef, undef, undef, undef, undef, undef, undef, undef, undef, undef, undef, undef, undef, undef, undef, undef, undef, undef, undef, undef, undef, undef, undef, undef, undef, undef, undef, undef, undef, undef, undef, undef, undef, undef, undef, undef, undef, undef, undef, undef, undef, undef, undef, undef, undef], []⟩ (by intro cs b e; cases e) rfl (show 64 < 65 by decide) ?_ ?_
            · intro x hx
              simp [Op.operands] at hx
              rcases hx with rfl
              · exact (hf.was (t := 4) (by decide) rfl).trans rfl
            go_wp2_with fail
            first | exact ⟨below_size, rfl⟩ | exact ⟨_, rfl, below_size, rfl⟩
          · intro a1 w1 hf
            have E1 := EW w1 hf.below
            have hc0 : w1.cell? ⟨w.heap.size + 1, 0, none⟩ = some (i64 s) := keepc E1 HD0'.out
            clear E1
            refine MixA.hop ⟨#[undef, undef, undef, undef, undef, undef, undef, undef, undef, undef, undef, undef, undef, undef, undef, undef, undef, undef, undef, undef, undef, undef, undef, undef, undef, undef, undef, undef, undef, undef, undef, undef, undef, undef, undef, undef, undef, undef, undef, undef, undef, undef, undef, undef, undef, undef, undef, undef, undef, undef, undef, undef, undef, undef, undef, undef, undef, undef, undef, undef, undef, undef, undef, undef, (.pointer (some ⟨w.heap.size + 1, 0, none⟩)), undef], []⟩ (by intro cs b e; cases e) rfl (show 65 < 66 by decide) ?_ ?_
            · intro x hx
              simp [Op.operands] at hx
              rcases hx with rfl
              · exact (hf.pure (j := 0) (by decide) rfl).trans rfl
            go_wp2_with fail
            exact ⟨below_size, rfl⟩
          · intro a1 w1 hf
            refine MixA.hop ⟨#[undef, undef, undef, undef, undef, undef, undef, undef, (.slice (some ao) l5 oc5), undef, undef, undef, undef, undef, undef, undef, undef, undef, undef, undef, undef, undef, undef, undef, undef, undef, undef, undef, undef, undef, undef, undef, undef, undef, undef, undef, undef, undef, undef, undef, undef, undef, undef, undef, undef, undef, undef, undef, undef, undef, undef, undef, undef, undef, undef, undef, undef, undef, undef, undef, undef, undef, undef, undef, undef, undef, undef], []⟩ (by intro cs b e; cases e) rfl (show 66 < 67 by decide) ?_ ?_
            · intro x hx
              simp [Op.operands] at hx
              rcases hx with rfl
              · exact (hf.was (t := 8) (by decide) rfl).trans rfl
            go_wp2_with fail
            first | exact ⟨below_size, rfl⟩ | exact ⟨_, rfl, below_size, rfl⟩
          · intro a1 w1 hf
            refine MixA.hop ⟨#[undef, undef, undef, undef, undef, undef, undef, undef, undef, (.int .i64 b5), undef, undef, undef, undef, undef, undef, undef, undef, undef, undef, undef, undef, undef, undef, undef, undef, undef, undef, undef, undef, undef, undef, undef, undef, undef, undef, undef, undef, undef, undef, undef, undef, undef, undef, undef, undef, undef, undef, undef, undef, undef, undef, undef, undef, undef, undef, undef, undef, undef, undef, undef, undef, undef, undef, undef, undef, undef, undef], []⟩ (by intro cs b e; cases e) rfl (show 67 < 68 by decide) ?_ ?_
            · intro x hx
              simp [Op.operands] at hx
              rcases hx with rfl
              · exact (hf.was (t := 9) (by decide) rfl).trans rfl
            go_wp2_with fail
            first | exact ⟨below_size, rfl⟩ | exact ⟨_, rfl, below_size, rfl⟩
          · intro a1 w1 hf
            refine MixA.hop ⟨#[undef, undef, undef, undef, undef, undef, undef, undef, undef, undef, undef, undef, undef, undef, undef, undef, undef, undef, undef, undef, undef, undef, undef, undef, undef, undef, undef, undef, undef, undef, undef, undef, undef, undef, undef, undef, undef, undef, undef, undef, undef, undef, undef, undef, undef, undef, undef, undef, undef, undef, undef, undef, undef, undef, undef, undef, undef, undef, undef, undef, undef, undef, undef, undef, undef, undef, (.slice (some ao) l5 oc5), (.int .i64 b5), undef], []⟩ (by intro cs b e; cases e) rfl (show 68 < 69 by decide) ?_ ?_
            · intro x hx
              simp [Op.operands] at hx
              rcases hx with rfl | rfl
              · exact (hf.pure (j := 2) (by decide) rfl).trans rfl
              · exact (hf.pure (j := 3) (by decide) rfl).trans rfl
            go_wp2_with fail
            first | exact ⟨below_size, rfl⟩ | exact ⟨_, rfl, below_size, rfl⟩
          · intro a1 w1 hf
            have E1 := EW w1 hf.below
            have HQ := Lib.hid (show RdI w1 (some ao) b5 (c5.take b5) from (RdI.below HRD.out E1).take (by omega))
            clear E1
            refine MixA.hop ⟨#[undef, undef, undef, undef, undef, undef, undef, undef, undef, undef, undef, undef, undef, undef, undef, undef, undef, undef, undef, undef, undef, undef, undef, undef, undef, undef, undef, undef, undef, undef, undef, undef, undef, undef, undef, undef, undef, undef, undef, undef, undef, undef, undef, undef, undef, undef, undef, undef, undef, undef, undef, undef, undef, undef, undef, undef, undef, undef, undef, undef, undef, undef, undef, undef, undef, undef, undef, undef, (.slice (some ao) b5 oc5), undef], []⟩ (by intro cs b e; cases e) rfl (show 69 < 70 by decide) ?_ ?_
            · intro x hx
              simp [Op.operands, Call.operands] at hx
              rcases hx with rfl | rfl
              · rfl
              · exact (hf.pure (j := 4) (by decide) rfl).trans rfl
            go_wp2_with fail
            refine (reversedK_c (some ao) b5 oc5 (c5.take b5) _ (by exact HQ.out) (by omega)).mono ?_
            rintro e w2 ⟨A2, cap2, rfl, hc2, hw2, hb2⟩
            have W2 := Lib.hid hw2; have B2 := Lib.hid hb2
            clear hw2 hb2
            go_wp2_with fail
            exact ⟨B2.out, A2, cap2, rfl, hc2, W2.out⟩
          · intro a1 w1 hf
            obtain ⟨R, hR, _⟩ := hf.facts
            obtain ⟨A69, c69, hv69, hcc, h69⟩ : fOc b5 ((c5.take b5).reverse) [] (MixA.val a1 69) (R 5).1 (R 5).2 w1 := (hR 5 (by decide)).1
            have HQ := Lib.hid h69.rdI
            clear hR h69
            refine MixA.hop ⟨#[undef, undef, undef, undef, undef, undef, undef, undef, undef, undef, undef, undef, undef, undef, undef, undef, undef, undef, undef, undef, undef, undef, undef, undef, undef, undef, undef, undef, undef, undef, undef, undef, undef, undef, undef, undef, undef, undef, undef, undef, undef, undef, undef, undef, undef, undef, undef, undef, undef, undef, undef, undef, undef, undef, undef, undef, undef, undef, undef, undef, undef, undef, undef, undef, undef, undef, undef, undef, undef, (.slice A69 b5 c69), undef], []⟩ (by intro cs b e; cases e) rfl (show 70 < 71 by decide) ?_ ?_
            · intro x hx
              simp [Op.operands, Call.operands] at hx
              rcases hx with rfl | rfl
              · rfl
              · exact hv69.trans rfl
            go_wp2_with fail
            refine (trimmed_c A69 b5 c69 _ _ (by exact HQ.out) (by omega) hcc).mono ?_
            rintro e w2 ⟨rfl, rfl⟩
            go_wp2_with fail
            exact ⟨below_size, A69, b5, c69, rfl, rfl⟩
          · intro a1 w1 hf
            refine MixA.hop ⟨#[undef, undef, undef, undef, undef, undef, undef, undef, (.slice (some ao) l5 oc5), undef, undef, undef, undef, undef, undef, undef, undef, undef, undef, undef, undef, undef, undef, undef, undef, undef, undef, undef, undef, undef, undef, undef, undef, undef, undef, undef, undef, undef, undef, undef, undef, undef, undef, undef, undef, undef, undef, undef, undef, undef, undef, undef, undef, undef, undef, undef, undef, undef, undef, undef, undef, undef, undef, undef, undef, undef, undef, undef, undef, undef, undef, undef], []⟩ (by intro cs b e; cases e) rfl (show 71 < 72 by decide) ?_ ?_
            · intro x hx
              simp [Op.operands] at hx
              rcases hx with rfl
              · exact (hf.was (t := 8) (by decide) rfl).trans rfl
            go_wp2_with fail
            first | exact ⟨below_size, rfl⟩ | exact ⟨_, rfl, below_size, rfl⟩
          · intro a1 w1 hf
            refine MixA.hop ⟨#[undef, undef, undef, undef, undef, undef, undef, undef, undef, (.int .i64 b5), undef, undef, undef, undef, undef, undef, undef, undef, undef, undef, undef, undef, undef, undef, undef, undef, undef, undef, undef, undef, undef, undef, undef, undef, undef, undef, undef, undef, undef, undef, undef, undef, undef, undef, undef, undef, undef, undef, undef, undef, undef, undef, undef, undef, undef, undef, undef, undef, undef, undef, undef, undef, undef, undef, undef, undef, undef, undef, undef, undef, undef, undef, undef], []⟩ (by intro cs b e; cases e) rfl (show 72 < 73 by decide) ?_ ?_
            · intro x hx
              simp [Op.operands] at hx
              rcases hx with rfl
              · exact (hf.was (t := 9) (by decide) rfl).trans rfl
            go_wp2_with fail
            first | exact ⟨below_size, rfl⟩ | exact ⟨_, rfl, below_size, rfl⟩
          · intro a1 w1 hf
            refine MixA.hop ⟨#[undef, undef, undef, undef, undef, undef, undef, undef, undef, undef, undef, undef, undef, undef, undef, undef, undef, undef, undef, undef, undef, undef, undef, undef, undef, undef, undef, undef, undef, undef, undef, undef, undef, undef, undef, undef, undef, undef, undef, undef, undef, undef, undef, undef, undef, undef, undef, undef, undef, undef, undef, undef, undef, undef, undef, undef, undef, undef, undef, undef, undef, undef, undef, undef, undef, undef, undef, undef, undef, undef, undef, (.slice (some ao) l5 oc5), (.int .i64 b5), undef], []⟩ (by intro cs b e; cases e) rfl (show 73 < 74 by decide) ?_ ?_
            · intro x hx
              simp [Op.operands] at hx
              rcases hx with rfl | rfl
              · exact (hf.pure (j := 7) (by decide) rfl).trans rfl
              · exact (hf.pure (j := 8) (by decide) rfl).trans rfl
            go_wp2_with fail
            first | exact ⟨below_size, rfl⟩ | exact ⟨_, rfl, below_size, rfl⟩
          · intro a1 w1 hf
            have E1 := EW w1 hf.below
            have HQ := Lib.hid (show RdI w1 (some (ao.add b5)) (l5 - b5) (c5.drop b5) from (RdI.below HRD.out E1).drop (by omega))
            clear E1
            refine MixA.hop ⟨#[undef, undef, undef, undef, undef, undef, undef, undef, undef, undef, undef, undef, undef, undef, undef, undef, undef, undef, undef, undef, undef, undef, undef, undef, undef, undef, undef, undef, undef, undef, undef, undef, undef, undef, undef, undef, undef, undef, undef, undef, undef, undef, undef, undef, undef, undef, undef, undef, undef, undef, undef, undef, undef, undef, undef, undef, undef, undef, undef, undef, undef, undef, undef, undef, undef, undef, undef, undef, undef, undef, undef, undef, undef, (.slice (some (ao.add b5)) (l5 - b5) (oc5 - b5)), undef], []⟩ (by intro cs b e; cases e) rfl (show 74 < 75 by decide) ?_ ?_
            · intro x hx
              simp [Op.operands, Call.operands] at hx
              rcases hx with rfl | rfl
              · rfl
              · exact (hf.pure (j := 9) (by decide) rfl).trans rfl
            go_wp2_with fail
            refine (cloneK_c (some (ao.add b5)) (l5 - b5) (oc5 - b5) (c5.drop b5) _ (by exact HQ.out) (by omega)).mono ?_
            rintro e w2 ⟨A2, cap2, rfl, hc2, hw2, hb2⟩
            have W2 := Lib.hid hw2; have B2 := Lib.hid hb2
            clear hw2 hb2
            go_wp2_with fail
            exact ⟨B2.out, A2, cap2, rfl, hc2, W2.out⟩
          · intro a1 w1 hf
            obtain ⟨R, hR, _⟩ := hf.facts
            obtain ⟨A74, c74, hv74, hcc, h74⟩ : fOc (l5 - b5) (c5.drop b5) [] (MixA.val a1 74) (R 10).1 (R 10).2 w1 := (hR 10 (by decide)).1
            have HQ := Lib.hid h74.rdI
            clear hR h74
            refine MixA.hop ⟨#[undef, undef, undef, undef, undef, undef, undef, undef, undef, undef, undef, undef, undef, undef, undef, undef, undef, undef, undef, undef, undef, undef, undef, undef, undef, undef, undef, undef, undef, undef, undef, undef, undef, undef, undef, undef, undef, undef, undef, undef, undef, undef, undef, undef, undef, undef, undef, undef, undef, undef, undef, undef, undef, undef, undef, undef, undef, undef, undef, undef, undef, undef, undef, undef, undef, undef, undef, undef, undef, undef, undef, undef, undef, undef, (.slice A74 (l5 - b5) c74), undef], []⟩ (by intro cs b e; cases e) rfl (show 75 < 76 by decide) ?_ ?_
            · intro x hx
              simp [Op.operands, Call.operands] at hx
              rcases hx with rfl | rfl
              · rfl
              · exact hv74.trans rfl
            go_wp2_with fail
            refine (trimmed_c A74 (l5 - b5) c74 _ _ (by exact HQ.out) (by omega) hcc).mono ?_
            rintro e w2 ⟨rfl, rfl⟩
            go_wp2_with fail
            exact ⟨below_size, A74, (l5 - b5), c74, rfl, rfl⟩
          · intro a1 w1 hf
            obtain ⟨R, hR, _⟩ := hf.facts
            have hv65 : MixA.val a1 65 = .int .i64 s := (hR 1 (by decide)).1
            obtain ⟨A70, n70, c70, _, hv70⟩ : ∃ A n c, MixA.val a1 69 = .slice A n c ∧ MixA.val a1 70 = .slice A (trimL (c5.take b5).reverse).length c := (hR 6 (by decide)).1
            obtain ⟨A75, n75, c75, _, hv75⟩ : ∃ A n c, MixA.val a1 74 = .slice A n c ∧ MixA.val a1 75 = .slice A (trimL (c5.drop b5)).length c := (hR 11 (by decide)).1
            clear hR
            refine MixA.hop ⟨#[undef, undef, undef, undef, undef, undef, undef, undef, undef, undef, undef, undef, undef, undef, undef, undef, undef, undef, undef, undef, undef, undef, undef, undef, undef, undef, undef, undef, undef, undef, undef, undef, undef, undef, undef, undef, undef, undef, undef, undef, undef, undef, undef, undef, undef, undef, undef, undef, undef, undef, undef, undef, undef, undef, undef, undef, undef, undef, undef, undef, undef, undef, undef, undef, undef, (.int .i64 s), undef, undef, undef, undef, (.slice A70 (trimL (c5.take b5).reverse).length c70), undef, undef, undef, undef, (.slice A75 (trimL (c5.drop b5)).length c75), undef], []⟩ (by intro cs b e; cases e) rfl (show 76 < 77 by decide) ?_ ?_
            · intro x hx
              simp [Op.operands] at hx
              rcases hx with rfl | rfl | rfl
              · exact hv65.trans rfl
              · exact hv70.trans rfl
              · exact hv75.trans rfl
            go_wp2_with fail
            exact ⟨below_size, rfl⟩
          · intro a1 w1 hf
            refine MixA.hop ⟨#[undef, undef, undef, undef, undef, undef, undef, undef, undef, undef, undef, undef, undef], []⟩ (by intro cs b e; cases e) rfl (show 12 < 13 by decide) ?_ ?_
            · intro x hx
              simp [Op.operands] at hx
            go_wp2_with fail
            first | exact ⟨below_size.alloc (Nat.le_refl _) _, w1.heap.size, rfl, Nat.le_refl _, by simp, Blk.new w1 _ _⟩ | exact ⟨_, rfl, below_size.alloc (Nat.le_refl _) _, w1.heap.size, rfl, Nat.le_refl _, by simp, Blk.new w1 _ _⟩
          · intro a1 w1 hf
            obtain ⟨R, hR, hd⟩ := hf.facts
            have hv65 : MixA.val a1 65 = .int .i64 s := (hR 1 (by decide)).1
            obtain ⟨A69, c69, hv69, hcc69, h69⟩ : fOc b5 ((c5.take b5).reverse) [] (MixA.val a1 69) (R 5).1 (R 5).2 w1 := (hR 5 (by decide)).1
            obtain ⟨A70, n70, c70, ee69, hv70⟩ : ∃ A n c, MixA.val a1 69 = .slice A n c ∧ MixA.val a1 70 = .slice A (trimL (c5.take b5).reverse).length c := (hR 6 (by decide)).1
            obtain ⟨A74, c74, hv74, hcc74, h74⟩ : fOc (l5 - b5) (c5.drop b5) [] (MixA.val a1 74) (R 10).1 (R 10).2 w1 := (hR 10 (by decide)).1
            obtain ⟨A75, n75, c75, ee74, hv75⟩ : ∃ A n c, MixA.val a1 74 = .slice A n c ∧ MixA.val a1 75 = .slice A (trimL (c5.drop b5)).length c := (hR 11 (by decide)).1
            rw [hv69] at ee69; rw [hv74] at ee74
            injection ee69 with q1 q2 q3
            injection ee74 with q4 q5 q6
            subst q1 q3 q4 q6
            clear q2 q5
            have hv76 : MixA.val a1 76 = .agg #[MixA.val a1 65, MixA.val a1 70, MixA.val a1 75] := (hR 12 (by decide)).1
            rw [hv65, hv70, hv75] at hv76
            obtain ⟨g12, hv12, l12, r12, h12⟩ : ∃ g', MixA.val a1 12 = .pointer (some ⟨g', 0, none⟩) ∧ (R 13).1 ≤ g' ∧ g' < (R 13).2 ∧ Blk w1 g' 59 #[i64 0, .slice none 0 0, .slice none 0 0] := (hR 13 (by decide)).1
            have b69 := (hR 5 (by decide)).2; have b74 := (hR 10 (by decide)).2; have b12 := (hR 13 (by decide)).2
            have s69 : g12 < (R 5).1 ∨ (R 5).2 ≤ g12 := by have := hd 13 5 (by decide) (by decide) (by decide); omega
            have s74 : g12 < (R 10).1 ∨ (R 10).2 ≤ g12 := by have := hd 13 10 (by decide) (by decide) (by decide); omega
            have HML := Lib.hid (show (trimL (c5.take b5).reverse).length ≤ b5 by have h1 := trimL_len (c5.take b5).reverse; have h2 : (c5.take b5).length ≤ b5 := List.length_take_le _ _; rw [List.length_reverse] at h1; omega)
            have HMR := Lib.hid (show (trimL (c5.drop b5)).length ≤ l5 - b5 by have h1 := trimL_len (c5.drop b5); have h2 : (c5.drop b5).length = l5 - b5 := RdI.len h74.rdI; omega)
            have t69 : Wr w1 (R 5).1 (R 5).2 A69 (trimL (c5.take b5).reverse).length ((trimL (c5.take b5).reverse).map i64) := by
              have := h69.take HML.out
              rwa [← List.map_take, ← trimL_take] at this
            have t74 : Wr w1 (R 10).1 (R 10).2 A74 (trimL (c5.drop b5)).length ((trimL (c5.drop b5)).map i64) := by
              have := h74.take HMR.out
              rwa [← List.map_take, ← trimL_take] at this
            obtain ⟨ll, hll⟩ : ∃ ll, (trimL (c5.take b5).reverse).length = ll := ⟨_, rfl⟩
            obtain ⟨lr, hlr⟩ : ∃ lr, (trimL (c5.drop b5)).length = lr := ⟨_, rfl⟩
            rw [hll] at HML t69 hv70 hv76
            rw [hlr] at HMR t74 hv75 hv76
            have m0 := h12.cell 0; have m1 := h12.cell 1; have m2 := h12.cell 2
            have f0 := h12.frozen 0; have f1 := h12.frozen 1; have f2 := h12.frozen 2
            simp at m0 m1 m2
            have E1 := Lib.hid (below_of_drew hf.below)
            have HG := Lib.hid (show wc.heap.size ≤ g12 from Nat.le_trans b12.1 l12)
            obtain ⟨w2, hw2⟩ : ∃ w2, ((w1.setCell ⟨g12, 0, none⟩ (.int .i64 s)).setCell ⟨g12, 1, none⟩ (.slice A69 ll c69)).setCell ⟨g12, 2, none⟩ (.slice A74 lr c74) = w2 := ⟨_, rfl⟩
            have hsz2 : w2.heap.size = w1.heap.size := by rw [← hw2]; simp
            have WS := Lib.hid (show WrS w2 wc.heap.size w2.heap.size ([sgI A69 ll (trimL (c5.take b5).reverse)] ++ [sgI A74 lr (trimL (c5.drop b5))]) by
              rw [hsz2, ← hw2]
              exact (WrS.one (((t69.set_far (p := ⟨g12, 0, none⟩) s69 _).set_far (p := ⟨g12, 1, none⟩) s69 _).set_far (p := ⟨g12, 2, none⟩) s69 _)).two (lo := wc.heap.size) (hi := w1.heap.size) (WrS.one (((t74.set_far (p := ⟨g12, 0, none⟩) s74 _).set_far (p := ⟨g12, 1, none⟩) s74 _).set_far (p := ⟨g12, 2, none⟩) s74 _)) (hd 5 10 (by decide) (by decide) (by decide)) ⟨b69.1, b69.2.1, b69.2.2⟩ ⟨b74.1, b74.2.1, b74.2.2⟩)
            have Z12 := Lib.hid (show Blk w2 g12 59 #[.int .i64 s, .slice A69 ll c69, .slice A74 lr c74] by rw [← hw2]; exact ((h12.set_ 0 _).set_ 1 _).set_ 2 _)
            have E2 := Lib.hid (show Below wc.heap.size wc w2 by rw [← hw2]; exact ((E1.out.setCell (by exact HG.out) _).setCell (by exact HG.out) _).setCell (by exact HG.out) _)
            have ZC2 := Lib.hid (HZC.out.keep E2.out)
            rw [hf.act]
            clear hR hd h69 h74 b69 b74 b12 t69 t74 h12 l12 r12 s69 s74 EW hcc69 hcc74 hsz2
            simp only [List.foldl_cons, List.foldl_nil, hv65, hv69, hv70, hv74, hv75, hv76, hv12]
            clear hv65 hv69 hv70 hv74 hv75 hv76 hv12 hf
            simp only [Act.put, List.setIfInBounds_toArray, List.set_cons_succ, List.set_cons_zero]
            have n0 := Z12.out.cell 0; have n1 := Z12.out.cell 1; have n2 := Z12.out.cell 2
            simp at n0 n1 n2
            have HLL := Lib.hid hll; have HLR' := Lib.hid hlr
            clear hll hlr
            go_wp2_with fail
            clear m0 m1 m2 f0 f1 f2 hw2
            refine (roomy_c s A69 ll c69 A74 lr c74 _ (by have := HML.out; omega) (by have := HMR.out; omega)).mono ?_
            rintro e w3 ⟨rfl, hb3⟩
            have E3 := Lib.hid hb3
            have ZC3 := Lib.hid (ZC2.out.keep hb3)
            have Z13 := Lib.hid (Z12.out.keep hb3)
            have W3 := Lib.hid (WS.out.below hb3)
            have BW := Lib.hid (HBW.out.trans ((E2.out.trans (hb3.mono E2.out.size)).mono HBW.out.size))
            have HZ3 := Lib.hid hb3.size
            obtain ⟨u, hu⟩ : ∃ u, (decide ((ll : Int) ≤ 200) && decide ((lr : Int) ≤ 200)) = u := ⟨_, rfl⟩
            rw [hu]
            have HFT := Lib.hid (show fatO s hn a W RP os cs = if u then ((s, trimL (c5.take b5).reverse, trimL (c5.drop b5)), 0) else (zeroC, 5) by
              rw [fatO, HKS.out, HDC.out, HD.out, fitC]; simp only; rw [HLL.out, HLR'.out, hu])
            clear hb3 hu n0 n1 n2
            have n0 := Z13.out.cell 0; have n1 := Z13.out.cell 1; have n2 := Z13.out.cell 2
            have r0 := ZC3.out.cell 0; have r1 := ZC3.out.cell 1; have r2 := ZC3.out.cell 2
            have f0 := ZC3.out.frozen 0; have f1 := ZC3.out.frozen 1; have f2 := ZC3.out.frozen 2
            simp at n0 n1 n2 r0 r1 r2
            cases u
            · go_wp2_with fail
              refine bodyPost_ret (v := .tuple #[.agg #[i64 0, .slice none 0 0, .slice none 0 0], i64 5]) (by simp [results, Try.results71, go_sem, r0, r1, r2]) rfl ?_
              rw [HFT.out]
              exact CfgOut2.bad 5 (((BW.out.setCell (by simp; omega) _).setCell (by simp; omega) _).setCell (by simp; omega) _)
            · go_wp2_with fail
              refine bodyPost_ret (v := .tuple #[.agg #[i64 s, .slice A69 ll c69, .slice A74 lr c74], i64 0]) (by simp [results, Try.results71, go_sem, r0, r1, r2]) rfl ?_
              rw [HFT.out]
              exact CfgOut2.of (g := w.heap.size + 2) W3.out (by omega) (by omega) (by omega) (by have := HML.out; omega) (by have := HMR.out; omega) BW.out (by have := HZ3.out; omega)
        · obtain rfl : b5 = oc5 := by omega
          obtain rfl : b5 = l5 := by omega
          have HNIL := Lib.hid (show c5.drop b5 = [] from List.drop_eq_nil_of_le (by have := HL5.out; omega))
          go_wp2_with fail
          refine MixA.wp_facts 14 [64, 65, 66, 67, 68, 69, 70, 71, 72, 73, 74, 75, 76, 12] [[], [0], [], [], [2, 3], [4], [5], [], [], [7, 8], [9], [10], [1, 6, 11], []]
            [MixA.fP (.pointer (some ⟨w.heap.size + 1, 0, none⟩)),
             MixA.fP (.int .i64 s),
             MixA.fP (.slice (some ao) b5 b5),
             MixA.fP (.int .i64 b5),
             MixA.fP (.slice (some ao) b5 b5),
             fOc b5 ((c5.take b5).reverse),
             fTr (trimL (c5.take b5).reverse).length,
             MixA.fP (.slice (some ao) b5 b5),
             MixA.fP (.int .i64 b5),
             MixA.fP (.slice (some ao) 0 0),
             fOc (0) (c5.drop b5),
             fTr (trimL (c5.drop b5)).length,
             fA3,
             MixA.fB 59 #[i64 0, .slice none 0 0, .slice none 0 0]]
            (by kernel_rfl) (by kernel_rfl) (fun t ht => Nat.lt_of_lt_of_eq (show t < 82 by revert t; decide) rfl) ?_ ?_
          · intro f hf
            simp only [List.mem_cons, List.not_mem_nil, or_false] at hf
            rcases hf with rfl | rfl | rfl | rfl | rfl | rfl | rfl | rfl | rfl | rfl | rfl | rfl | rfl | rfl
            · exact MixA.fP_st _
            · exact MixA.fP_st _
            · exact MixA.fP_st _
            · exact MixA.fP_st _
            · exact MixA.fP_st _
            · exact fOc_st _ _
            · exact fTr_st _
            · exact MixA.fP_st _
            · exact MixA.fP_st _
            · exact MixA.fP_st _
            · exact fOc_st _ _
            · exact fTr_st _
            · exact fA3_st
            · exact MixA.fB_st _ _
          simp only [MixA.EachF]
          refine ⟨?_, ?_, ?_, ?_, ?_, ?_, ?_, ?_, ?_, ?_, ?_, ?_, ?_, ?_, ?_⟩
          · intro a1 w1 hf
            refine MixA.hop ⟨#[undef, undef, undef, undef, (.pointer (some ⟨w.heap.size + 1, 0, none⟩)), undef, undef, undef, undef, undef, undef, undef, undef, undef, undef, undef, undef, undef, undef, undef, undef, undef, undef, undef, undef, undef, undef, undef, undef, undef, undef, undef, undef, undef, undef, undef, undef, undef, undef, undef, undef, undef, undef, undef, undef, undef, undef, undef, undef, undef, undef, undef, undef, undef, undef, undef, undef, undef, undef, undef, undef, undef, undef, undef, undef], []⟩ (by intro cs b e; cases e) rfl (show 64 < 65 by decide) ?_ ?_
            · intro x hx
              simp [Op.operands] at hx
              rcases hx with rfl
              · exact (hf.was (t := 4) (by decide) rfl).trans rfl
            go_wp2_with fail
            first | exact ⟨below_size, rfl⟩ | exact ⟨_, rfl, below_size, rfl⟩
          · intro a1 w1 hf
            have E1 := EW w1 hf.below
            have hc0 : w1.cell? ⟨w.heap.size + 1, 0, none⟩ = some (i64 s) := keepc E1 HD0'.out
            clear E1
            refine MixA.hop ⟨#[undef, undef, undef, undef, undef, undef, undef, undef, undef, undef, undef, undef, undef, undef, undef, undef, undef, undef, undef, undef, undef, undef, undef, undef, undef, undef, undef, undef, undef, undef, undef, undef, undef, undef, undef, undef, undef, undef, undef, undef, undef, undef, undef, undef, undef, undef, undef, undef, undef, undef, undef, undef, undef, undef, undef, undef, undef, undef, undef, undef, undef, undef, undef, undef, (.pointer (some ⟨w.heap.size + 1, 0, none⟩)), undef], []⟩ (by intro cs b e; cases e) rfl (show 65 < 66 by decide) ?_ ?_
            · intro x hx
              simp [Op.operands] at hx
              rcases hx with rfl
              · exact (hf.pure (j := 0) (by decide) rfl).trans rfl
            go_wp2_with fail
            exact ⟨below_size, rfl⟩
          · intro a1 w1 hf
            refine MixA.hop ⟨#[undef, undef, undef, undef, undef, undef, undef, undef, (.slice (some ao) b5 b5), undef, undef, undef, undef, undef, undef, undef, undef, undef, undef, undef, undef, undef, undef, undef, undef, undef, undef, undef, undef, undef, undef, undef, undef, undef, undef, undef, undef, undef, undef, undef, undef, undef, undef, undef, undef, undef, undef, undef, undef, undef, undef, undef, undef, undef, undef, undef, undef, undef, undef, undef, undef, undef, undef, undef, undef, undef, undef], []⟩ (by intro cs b e; cases e) rfl (show 66 < 67 by decide) ?_ ?_
            · intro x hx
              simp [Op.operands] at hx
              rcases hx with rfl
              · exact (hf.was (t := 8) (by decide) rfl).trans rfl
            go_wp2_with fail
            first | exact ⟨below_size, rfl⟩ | exact ⟨_, rfl, below_size, rfl⟩
          · intro a1 w1 hf
            refine MixA.hop ⟨#[undef, undef, undef, undef, undef, undef, undef, undef, undef, (.int .i64 b5), undef, undef, undef, undef, undef, undef, undef, undef, undef, undef, undef, undef, undef, undef, undef, undef, undef, undef, undef, undef, undef, undef, undef, undef, undef, undef, undef, undef, undef, undef, undef, undef, undef, undef, undef, undef, undef, undef, undef, undef, undef, undef, undef, undef, undef, undef, undef, undef, undef, undef, undef, undef, undef, undef, undef, undef, undef, undef], []⟩ (by intro cs b e; cases e) rfl (show 67 < 68 by decide) ?_ ?_
            · intro x hx
              simp [Op.operands] at hx
              rcases hx with rfl
              · exact (hf.was (t := 9) (by decide) rfl).trans rfl
            go_wp2_with fail
            first | exact ⟨below_size, rfl⟩ | exact ⟨_, rfl, below_size, rfl⟩
          · intro a1 w1 hf
            refine MixA.hop ⟨#[undef, undef, undef, undef, undef, undef, undef, undef, undef, undef, undef, undef, undef, undef, undef, undef, undef, undef, undef, undef, undef, undef, undef, undef, undef, undef, undef, undef, undef, undef, undef, undef, undef, undef, undef, undef, undef, undef, undef, undef, undef, undef, undef, undef, undef, undef, undef, undef, undef, undef, undef, undef, undef, undef, undef, undef, undef, undef, undef, undef, undef, undef, undef, undef, undef, undef, (.slice (some ao) b5 b5), (.int .i64 b5), undef], []⟩ (by intro cs b e; cases e) rfl (show 68 < 69 by decide) ?_ ?_
            · intro x hx
              simp [Op.operands] at hx
              rcases hx with rfl | rfl
              · exact (hf.pure (j := 2) (by decide) rfl).trans rfl
              · exact (hf.pure (j := 3) (by decide) rfl).trans rfl
            go_wp2_with fail
            first | exact ⟨below_size, rfl⟩ | exact ⟨_, rfl, below_size, rfl⟩
          · intro a1 w1 hf
            have E1 := EW w1 hf.below
            have HQ := Lib.hid (show RdI w1 (some ao) b5 (c5.take b5) from (RdI.below HRD.out E1).take (by omega))
            clear E1
            refine MixA.hop ⟨#[undef, undef, undef, undef, undef, undef, undef, undef, undef, undef, undef, undef, undef, undef, undef, undef, undef, undef, undef, undef, undef, undef, undef, undef, undef, undef, undef, undef, undef, undef, undef, undef, undef, undef, undef, undef, undef, undef, undef, undef, undef, undef, undef, undef, undef, undef, undef, undef, undef, undef, undef, undef, undef, undef, undef, undef, undef, undef, undef, undef, undef, undef, undef, undef, undef, undef, undef, undef, (.slice (some ao) b5 b5), undef], []⟩ (by intro cs b e; cases e) rfl (show 69 < 70 by decide) ?_ ?_
            · intro x hx
              simp [Op.operands, Call.operands] at hx
              rcases hx with rfl | rfl
              · rfl
              · exact (hf.pure (j := 4) (by decide) rfl).trans rfl
            go_wp2_with fail
            refine (reversedK_c (some ao) b5 b5 (c5.take b5) _ (by exact HQ.out) (by omega)).mono ?_
            rintro e w2 ⟨A2, cap2, rfl, hc2, hw2, hb2⟩
            have W2 := Lib.hid hw2; have B2 := Lib.hid hb2
            clear hw2 hb2
            go_wp2_with fail
            exact ⟨B2.out, A2, cap2, rfl, hc2, W2.out⟩
          · intro a1 w1 hf
            obtain ⟨R, hR, _⟩ := hf.facts
            obtain ⟨A69, c69, hv69, hcc, h69⟩ : fOc b5 ((c5.take b5).reverse) [] (MixA.val a1 69) (R 5).1 (R 5).2 w1 := (hR 5 (by decide)).1
            have HQ := Lib.hid h69.rdI
            clear hR h69
            refine MixA.hop ⟨#[undef, undef, undef, undef, undef, undef, undef, undef, undef, undef, undef, undef, undef, undef, undef, undef, undef, undef, undef, undef, undef, undef, undef, undef, undef, undef, undef, undef, undef, undef, undef, undef, undef, undef, undef, undef, undef, undef, undef, undef, undef, undef, undef, undef, undef, undef, undef, undef, undef, undef, undef, undef, undef, undef, undef, undef, undef, undef, undef, undef, undef, undef, undef, undef, undef, undef, undef, undef, undef, (.slice A69 b5 c69), undef], []⟩ (by intro cs b e; cases e) rfl (show 70 < 71 by decide) ?_ ?_
            · intro x hx
              simp [Op.operands, Call.operands] at hx
              rcases hx with rfl | rfl
              · rfl
              · exact hv69.trans rfl
            go_wp2_with fail
            refine (trimmed_c A69 b5 c69 _ _ (by exact HQ.out) (by omega) hcc).mono ?_
            rintro e w2 ⟨rfl, rfl⟩
            go_wp2_with fail
            exact ⟨below_size, A69, b5, c69, rfl, rfl⟩
          · intro a1 w1 hf
            refine MixA.hop ⟨#[undef, undef, undef, undef, undef, undef, undef, undef, (.slice (some ao) b5 b5), undef, undef, undef, undef, undef, undef, undef, undef, undef, undef, undef, undef, undef, undef, undef, undef, undef, undef, undef, undef, undef, undef, undef, undef, undef, undef, undef, undef, undef, undef, undef, undef, undef, undef, undef, undef, undef, undef, undef, undef, undef, undef, undef, undef, undef, undef, undef, undef, undef, undef, undef, undef, undef, undef, undef, undef, undef, undef, undef, undef, undef, undef, undef], []⟩ (by intro cs b e; cases e) rfl (show 71 < 72 by decide) ?_ ?_
            · intro x hx
              simp [Op.operands] at hx
              rcases hx with rfl
              · exact (hf.was (t := 8) (by decide) rfl).trans rfl
            go_wp2_with fail
            first | exact ⟨below_size, rfl⟩ | exact ⟨_, rfl, below_size, rfl⟩
          · intro a1 w1 hf
            refine MixA.hop ⟨#[undef, undef, undef, undef, undef, undef, undef, undef, undef, (.int .i64 b5), undef, undef, undef, undef, undef, undef, undef, undef, undef, undef, undef, undef, undef, undef, undef, undef, undef, undef, undef, undef, undef, undef, undef, undef, undef, undef, undef, undef, undef, undef, undef, undef, undef, undef, undef, undef, undef, undef, undef, undef, undef, undef, undef, undef, undef, undef, undef, undef, undef, undef, undef, undef, undef, undef, undef, undef, undef, undef, undef, undef, undef, undef, undef], []⟩ (by intro cs b e; cases e) rfl (show 72 < 73 by decide) ?_ ?_
            · intro x hx
              simp [Op.operands] at hx
              rcases hx with rfl
              · exact (hf.was (t := 9) (by decide) rfl).trans rfl
            go_wp2_with fail
            first | exact ⟨below_size, rfl⟩ | exact ⟨_, rfl, below_size, rfl⟩
          · intro a1 w1 hf
            refine MixA.hop ⟨#[undef, undef, undef, undef, undef, undef, undef, undef, undef, undef, undef, undef, undef, undef, undef, undef, undef, undef, undef, undef, undef, undef, undef, undef, undef, undef, undef, undef, undef, undef, undef, undef, undef, undef, undef, undef, undef, undef, undef, undef, undef, undef, undef, undef, undef, undef, undef, undef, undef, undef, undef, undef, undef, undef, undef, undef, undef, undef, undef, undef, undef, undef, undef, undef, undef, undef, undef, undef, undef, undef, undef, (.slice (some ao) b5 b5), (.int .i64 b5), undef], []⟩ (by intro cs b e; cases e) rfl (show 73 < 74 by decide) ?_ ?_
            · intro x hx
              simp [Op.operands] at hx
              rcases hx with rfl | rfl
              · exact (hf.pure (j := 7) (by decide) rfl).trans rfl
              · exact (hf.pure (j := 8) (by decide) rfl).trans rfl
            go_wp2_with fail
            first | exact ⟨below_size, rfl⟩ | exact ⟨_, rfl, below_size, rfl⟩
          · intro a1 w1 hf
            have E1 := EW w1 hf.below
            have HQ := Lib.hid (show RdI w1 (some ao) (0) (c5.drop b5) from (by rw [HNIL.out]; exact RdI.nil))
            clear E1
            refine MixA.hop ⟨#[undef, undef, undef, undef, undef, undef, undef, undef, undef, undef, undef, undef, undef, undef, undef, undef, undef, undef, undef, undef, undef, undef, undef, undef, undef, undef, undef, undef, undef, undef, undef, undef, undef, undef, undef, undef, undef, undef, undef, undef, undef, undef, undef, undef, undef, undef, undef, undef, undef, undef, undef, undef, undef, undef, undef, undef, undef, undef, undef, undef, undef, undef, undef, undef, undef, undef, undef, undef, undef, undef, undef, undef, undef, (.slice (some ao) 0 0), undef], []⟩ (by intro cs b e; cases e) rfl (show 74 < 75 by decide) ?_ ?_
            · intro x hx
              simp [Op.operands, Call.operands] at hx
              rcases hx with rfl | rfl
              · rfl
              · exact (hf.pure (j := 9) (by decide) rfl).trans rfl
            go_wp2_with fail
            refine (cloneK_c (some ao) (0) (0) (c5.drop b5) _ (by exact HQ.out) (by omega)).mono ?_
            rintro e w2 ⟨A2, cap2, rfl, hc2, hw2, hb2⟩
            have W2 := Lib.hid hw2; have B2 := Lib.hid hb2
            clear hw2 hb2
            go_wp2_with fail
            exact ⟨B2.out, A2, cap2, rfl, hc2, W2.out⟩
          · intro a1 w1 hf
            obtain ⟨R, hR, _⟩ := hf.facts
            obtain ⟨A74, c74, hv74, hcc, h74⟩ : fOc (0) (c5.drop b5) [] (MixA.val a1 74) (R 10).1 (R 10).2 w1 := (hR 10 (by decide)).1
            have HQ := Lib.hid h74.rdI
            clear hR h74
            refine MixA.hop ⟨#[undef, undef, undef, undef, undef, undef, undef, undef, undef, undef, undef, undef, undef, undef, undef, undef, undef, undef, undef, undef, undef, undef, undef, undef, undef, undef, undef, undef, undef, undef, undef, undef, undef, undef, undef, undef, undef, undef, undef, undef, undef, undef, undef, undef, undef, undef, undef, undef, undef, undef, undef, undef, undef, undef, undef, undef, undef, undef, undef, undef, undef, undef, undef, undef, undef, undef, undef, undef, undef, undef, undef, undef, undef, undef, (.slice A74 0 c74), undef], []⟩ (by intro cs b e; cases e) rfl (show 75 < 76 by decide) ?_ ?_
            · intro x hx
              simp [Op.operands, Call.operands] at hx
              rcases hx with rfl | rfl
              · rfl
              · exact hv74.trans rfl
            go_wp2_with fail
            refine (trimmed_c A74 (0) c74 _ _ (by exact HQ.out) (by omega) hcc).mono ?_
            rintro e w2 ⟨rfl, rfl⟩
            go_wp2_with fail
            exact ⟨below_size, A74, (0), c74, rfl, rfl⟩
          · intro a1 w1 hf
            obtain ⟨R, hR, _⟩ := hf.facts
            have hv65 : MixA.val a1 65 = .int .i64 s := (hR 1 (by decide)).1
            obtain ⟨A70, n70, c70, _, hv70⟩ : ∃ A n c, MixA.val a1 69 = .slice A n c ∧ MixA.val a1 70 = .slice A (trimL (c5.take b5).reverse).length c := (hR 6 (by decide)).1
            obtain ⟨A75, n75, c75, _, hv75⟩ : ∃ A n c, MixA.val a1 74 = .slice A n c ∧ MixA.val a1 75 = .slice A (trimL (c5.drop b5)).length c := (hR 11 (by decide)).1
            clear hR
            refine MixA.hop ⟨#[undef, undef, undef, undef, undef, undef, undef, undef, undef, undef, undef, undef, undef, undef, undef, undef, undef, undef, undef, undef, undef, undef, undef, undef, undef, undef, undef, undef, undef, undef, undef, undef, undef, undef, undef, undef, undef, undef, undef, undef, undef, undef, undef, undef, undef, undef, undef, undef, undef, undef, undef, undef, undef, undef, undef, undef, undef, undef, undef, undef, undef, undef, undef, undef, undef, (.int .i64 s), undef, undef, undef, undef, (.slice A70 (trimL (c5.take b5).reverse).length c70), undef, undef, undef, undef, (.slice A75 (trimL (c5.drop b5)).length c75), undef], []⟩ (by intro cs b e; cases e) rfl (show 76 < 77 by decide) ?_ ?_
            · intro x hx
              simp [Op.operands] at hx
              rcases hx with rfl | rfl | rfl
              · exact hv65.trans rfl
              · exact hv70.trans rfl
              · exact hv75.trans rfl
            go_wp2_with fail
            exact ⟨below_size, rfl⟩
          · intro a1 w1 hf
            refine MixA.hop ⟨#[undef, undef, undef, undef, undef, undef, undef, undef, undef, undef, undef, undef, undef], []⟩ (by intro cs b e; cases e) rfl (show 12 < 13 by decide) ?_ ?_
            · intro x hx
              simp [Op.operands] at hx
            go_wp2_with fail
            first | exact ⟨below_size.alloc (Nat.le_refl _) _, w1.heap.size, rfl, Nat.le_refl _, by simp, Blk.new w1 _ _⟩ | exact ⟨_, rfl, below_size.alloc (Nat.le_refl _) _, w1.heap.size, rfl, Nat.le_refl _, by simp, Blk.new w1 _ _⟩
          · intro a1 w1 hf
            obtain ⟨R, hR, hd⟩ := hf.facts
            have hv65 : MixA.val a1 65 = .int .i64 s := (hR 1 (by decide)).1
            obtain ⟨A69, c69, hv69, hcc69, h69⟩ : fOc b5 ((c5.take b5).reverse) [] (MixA.val a1 69) (R 5).1 (R 5).2 w1 := (hR 5 (by decide)).1
            obtain ⟨A70, n70, c70, ee69, hv70⟩ : ∃ A n c, MixA.val a1 69 = .slice A n c ∧ MixA.val a1 70 = .slice A (trimL (c5.take b5).reverse).length c := (hR 6 (by decide)).1
            obtain ⟨A74, c74, hv74, hcc74, h74⟩ : fOc (0) (c5.drop b5) [] (MixA.val a1 74) (R 10).1 (R 10).2 w1 := (hR 10 (by decide)).1
            obtain ⟨A75, n75, c75, ee74, hv75⟩ : ∃ A n c, MixA.val a1 74 = .slice A n c ∧ MixA.val a1 75 = .slice A (trimL (c5.drop b5)).length c := (hR 11 (by decide)).1
            rw [hv69] at ee69; rw [hv74] at ee74
            injection ee69 with q1 q2 q3
            injection ee74 with q4 q5 q6
            subst q1 q3 q4 q6
            clear q2 q5
            have hv76 : MixA.val a1 76 = .agg #[MixA.val a1 65, MixA.val a1 70, MixA.val a1 75] := (hR 12 (by decide)).1
            rw [hv65, hv70, hv75] at hv76
            obtain ⟨g12, hv12, l12, r12, h12⟩ : ∃ g', MixA.val a1 12 = .pointer (some ⟨g', 0, none⟩) ∧ (R 13).1 ≤ g' ∧ g' < (R 13).2 ∧ Blk w1 g' 59 #[i64 0, .slice none 0 0, .slice none 0 0] := (hR 13 (by decide)).1
            have b69 := (hR 5 (by decide)).2; have b74 := (hR 10 (by decide)).2; have b12 := (hR 13 (by decide)).2
            have s69 : g12 < (R 5).1 ∨ (R 5).2 ≤ g12 := by have := hd 13 5 (by decide) (by decide) (by decide); omega
            have s74 : g12 < (R 10).1 ∨ (R 10).2 ≤ g12 := by have := hd 13 10 (by decide) (by decide) (by decide); omega
            have HML := Lib.hid (show (trimL (c5.take b5).reverse).length ≤ b5 by have h1 := trimL_len (c5.take b5).reverse; have h2 : (c5.take b5).length ≤ b5 := List.length_take_le _ _; rw [List.length_reverse] at h1; omega)
            have HMR := Lib.hid (show (trimL (c5.drop b5)).length ≤ 0 by have h1 := trimL_len (c5.drop b5); have h2 : (c5.drop b5).length = 0 := RdI.len h74.rdI; omega)
            have t69 : Wr w1 (R 5).1 (R 5).2 A69 (trimL (c5.take b5).reverse).length ((trimL (c5.take b5).reverse).map i64) := by
              have := h69.take HML.out
              rwa [← List.map_take, ← trimL_take] at this
            have t74 : Wr w1 (R 10).1 (R 10).2 A74 (trimL (c5.drop b5)).length ((trimL (c5.drop b5)).map i64) := by
              have := h74.take HMR.out
              rwa [← List.map_take, ← trimL_take] at this
            obtain ⟨ll, hll⟩ : ∃ ll, (trimL (c5.take b5).reverse).length = ll := ⟨_, rfl⟩
            obtain ⟨lr, hlr⟩ : ∃ lr, (trimL (c5.drop b5)).length = lr := ⟨_, rfl⟩
            rw [hll] at HML t69 hv70 hv76
            rw [hlr] at HMR t74 hv75 hv76
            have m0 := h12.cell 0; have m1 := h12.cell 1; have m2 := h12.cell 2
            have f0 := h12.frozen 0; have f1 := h12.frozen 1; have f2 := h12.frozen 2
            simp at m0 m1 m2
            have E1 := Lib.hid (below_of_drew hf.below)
            have HG := Lib.hid (show wc.heap.size ≤ g12 from Nat.le_trans b12.1 l12)
            obtain ⟨w2, hw2⟩ : ∃ w2, ((w1.setCell ⟨g12, 0, none⟩ (.int .i64 s)).setCell ⟨g12, 1, none⟩ (.slice A69 ll c69)).setCell ⟨g12, 2, none⟩ (.slice A74 lr c74) = w2 := ⟨_, rfl⟩
            have hsz2 : w2.heap.size = w1.heap.size := by rw [← hw2]; simp
            have WS := Lib.hid (show WrS w2 wc.heap.size w2.heap.size ([sgI A69 ll (trimL (c5.take b5).reverse)] ++ [sgI A74 lr (trimL (c5.drop b5))]) by
              rw [hsz2, ← hw2]
              exact (WrS.one (((t69.set_far (p := ⟨g12, 0, none⟩) s69 _).set_far (p := ⟨g12, 1, none⟩) s69 _).set_far (p := ⟨g12, 2, none⟩) s69 _)).two (lo := wc.heap.size) (hi := w1.heap.size) (WrS.one (((t74.set_far (p := ⟨g12, 0, none⟩) s74 _).set_far (p := ⟨g12, 1, none⟩) s74 _).set_far (p := ⟨g12, 2, none⟩) s74 _)) (hd 5 10 (by decide) (by decide) (by decide)) ⟨b69.1, b69.2.1, b69.2.2⟩ ⟨b74.1, b74.2.1, b74.2.2⟩)
            have Z12 := Lib.hid (show Blk w2 g12 59 #[.int .i64 s, .slice A69 ll c69, .slice A74 lr c74] by rw [← hw2]; exact ((h12.set_ 0 _).set_ 1 _).set_ 2 _)
            have E2 := Lib.hid (show Below wc.heap.size wc w2 by rw [← hw2]; exact ((E1.out.setCell (by exact HG.out) _).setCell (by exact HG.out) _).setCell (by exact HG.out) _)
            have ZC2 := Lib.hid (HZC.out.keep E2.out)
            rw [hf.act]
            clear hR hd h69 h74 b69 b74 b12 t69 t74 h12 l12 r12 s69 s74 EW hcc69 hcc74 hsz2
            simp only [List.foldl_cons, List.foldl_nil, hv65, hv69, hv70, hv74, hv75, hv76, hv12]
            clear hv65 hv69 hv70 hv74 hv75 hv76 hv12 hf
            simp only [Act.put, List.setIfInBounds_toArray, List.set_cons_succ, List.set_cons_zero]
            have n0 := Z12.out.cell 0; have n1 := Z12.out.cell 1; have n2 := Z12.out.cell 2
            simp at n0 n1 n2
            have HLL := Lib.hid hll; have HLR' := Lib.hid hlr
            clear hll hlr
            go_wp2_with fail
            clear m0 m1 m2 f0 f1 f2 hw2
            refine (roomy_c s A69 ll c69 A74 lr c74 _ (by have := HML.out; omega) (by have := HMR.out; omega)).mono ?_
            rintro e w3 ⟨rfl, hb3⟩
            have E3 := Lib.hid hb3
            have ZC3 := Lib.hid (ZC2.out.keep hb3)
            have Z13 := Lib.hid (Z12.out.keep hb3)
            have W3 := Lib.hid (WS.out.below hb3)
            have BW := Lib.hid (HBW.out.trans ((E2.out.trans (hb3.mono E2.out.size)).mono HBW.out.size))
            have HZ3 := Lib.hid hb3.size
            obtain ⟨u, hu⟩ : ∃ u, (decide ((ll : Int) ≤ 200) && decide ((lr : Int) ≤ 200)) = u := ⟨_, rfl⟩
            rw [hu]
            have HFT := Lib.hid (show fatO s hn a W RP os cs = if u then ((s, trimL (c5.take b5).reverse, trimL (c5.drop b5)), 0) else (zeroC, 5) by
              rw [fatO, HKS.out, HDC.out, HD.out, fitC]; simp only; rw [HLL.out, HLR'.out, hu])
            clear hb3 hu n0 n1 n2
            have n0 := Z13.out.cell 0; have n1 := Z13.out.cell 1; have n2 := Z13.out.cell 2
            have r0 := ZC3.out.cell 0; have r1 := ZC3.out.cell 1; have r2 := ZC3.out.cell 2
            have f0 := ZC3.out.frozen 0; have f1 := ZC3.out.frozen 1; have f2 := ZC3.out.frozen 2
            simp at n0 n1 n2 r0 r1 r2
            cases u
            · go_wp2_with fail
              refine bodyPost_ret (v := .tuple #[.agg #[i64 0, .slice none 0 0, .slice none 0 0], i64 5]) (by simp [results, Try.results71, go_sem, r0, r1, r2]) rfl ?_
              rw [HFT.out]
              exact CfgOut2.bad 5 (((BW.out.setCell (by simp; omega) _).setCell (by simp; omega) _).setCell (by simp; omega) _)
            · go_wp2_with fail
              refine bodyPost_ret (v := .tuple #[.agg #[i64 s, .slice A69 ll c69, .slice A74 lr c74], i64 0]) (by simp [results, Try.results71, go_sem, r0, r1, r2]) rfl ?_
              rw [HFT.out]
              exact CfgOut2.of (g := w.heap.size + 2) W3.out (by omega) (by omega) (by omega) (by have := HML.out; omega) (by have := HMR.out; omega) BW.out (by have := HZ3.out; omega)
end Go.Proofs.Ytmmgejnhfpfmnaa
