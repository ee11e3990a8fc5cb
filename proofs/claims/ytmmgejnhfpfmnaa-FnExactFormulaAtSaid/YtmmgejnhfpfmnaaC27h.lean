/-
  Contracts of chapter 27: the configuration of a formula tape (the reference's).
-/
import Derived.Test.YtmmgejnhfpfmnaaP27a
import Derived.Test.YtmmgejnhfpfmnaaC27g
import Derived.Test.YtmmgejnhfpfmnaaC27x
import Derived.Deep.Cut
import Derived.Deep.DeepCutAuto
namespace Go.Proofs.Ytmmgejnhfpfmnaa
open Go.RowKit

/-- a configuration of the call's own -/
def CfgOut (D : Int × List Int × List Int) (w : World) (e : Ending) (w' : World) : Prop :=
  ∃ A n c B m d, e = .returned (.agg #[i64 D.1, .slice A n c, .slice B m d]) ∧ WrS w' w.heap.size w'.heap.size ([sgI A n D.2.1] ++ [sgI B m D.2.2]) ∧ (n ≤ 1000000 ∧ m ≤ 1000000) ∧ Below w.heap.size w w'
theorem CfgOut.of {w wc w1 : World} {s : Int} {L M : List Int} {A B : Option Addr} {n c m d : Nat} {u0 u1 u2 : Value} (hS : WrS w1 wc.heap.size w1.heap.size ([sgI A n L] ++ [sgI B m M])) (hlt : w.heap.size < wc.heap.size) (hn : n ≤ 1000000) (hm : m ≤ 1000000) (hb : Below w.heap.size w wc) (h1 : Below wc.heap.size wc w1) :
    CfgOut (s, L, M) w (.returned (.agg #[i64 s, .slice A n c, .slice B m d])) (((w1.setCell ⟨w.heap.size, 0, none⟩ u0).setCell ⟨w.heap.size, 1, none⟩ u1).setCell ⟨w.heap.size, 2, none⟩ u2) :=
  ⟨A, n, c, B, m, d, rfl, by
    have := ((hS.set_far (p := ⟨w.heap.size, 0, none⟩) (.inl hlt) u0).set_far (p := ⟨w.heap.size, 1, none⟩) (.inl hlt) u1).set_far (p := ⟨w.heap.size, 2, none⟩) (.inl hlt) u2
    exact this.wider (by omega) (by simp), ⟨hn, hm⟩,
    (((hb.trans (h1.mono hb.size)).setCell (by simp) _).setCell (by simp) _).setCell (by simp) _⟩
/-- numbers of the call's own, with their capacity -/
def fOc (n : Nat) (xs : List Int) : MixA.Fact1 := fun _ v lo hi w => ∃ A c, v = .slice A n c ∧ n ≤ c ∧ Wr w lo hi A n (xs.map i64)
theorem fOc_st (n : Nat) (xs : List Int) : MixA.Stab (fOc n xs) := fun _ _ _ _ _ _ hb h => by obtain ⟨A, c, e, hc, hw⟩ := h; exact ⟨A, c, e, hc, hw.below hb⟩
def fOt (xs : List Int) : MixA.Fact1 := fun _ v lo hi w => ∃ A m c, v = .slice A m c ∧ m = xs.length ∧ m ≤ 1000000 ∧ Wr w lo hi A m (xs.map i64)
theorem fOt_st (xs : List Int) : MixA.Stab (fOt xs) := fun _ _ _ _ _ _ hb h => by obtain ⟨A, m, c, e, h1, h2, hw⟩ := h; exact ⟨A, m, c, e, h1, h2, hw.below hb⟩
/-- three values side by side -/
def fA3 : MixA.Fact1 := fun l v _ _ _ => v = .agg #[l.getD 0 undef, l.getD 1 undef, l.getD 2 undef]
theorem fA3_st : MixA.Stab fA3 := fun _ _ _ _ _ _ _ h => h
theorem Own.lit1c {w : World} {B : Nat} {e : TypeId} {v : Value} (hB : B ≤ w.heap.size) : Own (w.alloc (.cells #[v] e)) B e 1 (some ⟨w.heap.size, 0, none⟩) 1 1 [v] :=
  ⟨by simp, .inr ⟨w.heap.size, 1, #[v], rfl, hB, heap_alloc_new w _, by omega, by simp [maxLen], by simp, by simp⟩⟩
theorem own_rd {w : World} {B : Nat} {e : TypeId} {n c : Nat} {A : Option Addr} {xs : List Int} (h : Own w B e 1 A n c (xs.map i64)) : RdI w A n xs := h.wr.rdI
/-- what the cells are behind the first test, and behind the second -/
def CfgCut (B : Nat) (t : TypeId) (cs : List Int) (b : Nat) (w0 : World) (cv av : Value) (wx : World) : Prop :=
  ∃ ao l oc, cv = .slice (some ao) l oc ∧ av = .int .i64 b ∧ l = cs.length ∧ Own wx B t 1 (some ao) l oc (cs.map i64) ∧ Below B w0 wx
def CfgCut1 (B : Nat) (t : TypeId) (cs : List Int) (w0 : World) (cv : Value) (wx : World) : Prop :=
  ∃ ao l oc, cv = .slice (some ao) l oc ∧ l = cs.length ∧ Own wx B t 1 (some ao) l oc (cs.map i64) ∧ Below B w0 wx
theorem some_of {A' : Option Addr} {ao : Addr} {b : Nat} (h : A' = some ao ∨ A' = some ⟨b, 0, none⟩) : ∃ a, A' = some a := by
  rcases h with h | h
  · exact ⟨_, h⟩
  · exact ⟨_, h⟩
set_option maxHeartbeats 8000000 in
set_option maxRecDepth 100000 in
theorem l27Config_c (g : Nat) (sy st s hd a : Int) (A0 : Option Addr) (n0 c0 : Nat) (its0 : List It) (A1 : Option Addr) (n1 c1 : Nat) (its1 : List It) (A2 : Option Addr) (n2 c2 : Nat) (os : List Int) (C : Option Addr) (nc cc : Nat) (cs : List Int) (w : World)
    (h : FormP w g s hd a A0 n0 c0 its0 A1 n1 c1 its1 A2 n2 c2 os) (h' : RdI w C nc cs) (ok : FormOk sy st s hd a (its0.map It.xs) (its1.map It.xs) os) (hk : CntOk cs os (its1.map It.xs).length) :
    Calls Try.prog 67 #[.pointer (some ⟨g, 0, none⟩), .slice C nc cc] w (CfgOut (cfgF s hd a (its0.map It.xs) (its1.map It.xs) (ksOf cs os)) w) := by
  have HL0 := Lib.hid (RdII.len h.r0); have HL1 := Lib.hid (RdII.len h.r1); have HL2 := Lib.hid h.r2.len; have HLC := Lib.hid h'.len
  obtain ⟨W, hW⟩ : ∃ W, its0.map It.xs = W := ⟨_, rfl⟩
  obtain ⟨RP, hRP⟩ : ∃ RP, its1.map It.xs = RP := ⟨_, rfl⟩
  rw [hW, hRP] at ok
  rw [hRP] at hk
  rw [hW, hRP]
  have HW := Lib.hid hW; have HRP := Lib.hid hRP
  have H := Lib.hid h; have H' := Lib.hid h'; have OK := Lib.hid ok; have HK := Lib.hid hk
  have hlw : W.length = n0 := by rw [← hW, List.length_map]; exact HL0.out
  have hlr : RP.length = n1 := by rw [← hRP, List.length_map]; exact HL1.out
  have HLW := Lib.hid hlw; have HLR := Lib.hid hlr
  have e1 : n0 ≤ n1 + 1 ∧ n1 + 1 ≤ n0 := by have := ok.nw; omega
  have e2 : n1 ≤ n2 ∧ n2 ≤ n1 := by have := ok.no; have := HL2.out; omega
  have e3 : n1 ≤ nc ∧ nc ≤ n1 := by have := hk.nc; have := HLC.out; omega
  have hr : 1 ≤ n1 ∧ n1 ≤ 3 := by have := ok.r; omega
  have ha : -1 ≤ a ∧ a ≤ 100 := by
    have h1 := ok.lo; have h2 := ok.hi; have h3 := ok.hhd; have h4 := ok.nw
    have h5 := (ok.w _ (mem_getD (x := W) (k := hd.toNat) (by omega))).1
    omega
  obtain ⟨hn, rfl⟩ := Int.eq_ofNat_of_zero_le ok.hhd.1
  have hhn : hn ≤ n1 := by have := ok.hhd; omega
  obtain ⟨KS, hK⟩ : ∃ KS, ksOf cs os = KS := ⟨_, rfl⟩
  have HPB := Lib.hid (show ∀ i, i ≤ n0 → (preC W RP KS i).length ≤ 100000 from fun i hi => by
    have h1 := preC_bd (ks := ksOf cs os) ok hk.ks i (by omega)
    rw [hK] at h1
    have h4 : i * 21380 ≤ 4 * 21380 := Nat.mul_le_mul_right _ (by omega)
    omega)
  have HAB := Lib.hid (show -1 ≤ atC hn a W RP KS ∧ atC hn a W RP KS ≤ (cellsC W RP KS).length by rw [← hK]; exact at_bd ok hk)
  have HKS := Lib.hid hK
  rw [hK]
  have D := h
  have hgl : g < w.heap.size + 1 := Nat.lt_succ_of_lt (World.block_lt_of_cell? w _ h.d0)
  clear h h' ok hk hW hRP hlw hlr hK
  obtain ⟨w0, hw0⟩ : ∃ w0, (w.alloc (.cells #[i64 0, .slice none 0 0, .slice none 0 0] 59)).alloc (.cells #[] 2) = w0 := ⟨_, rfl⟩
  have Z0 := Lib.hid (show Blk w0 w.heap.size 59 #[i64 0, .slice none 0 0, .slice none 0 0] by rw [← hw0]; exact (Blk.new w _ _).alloc _)
  have BZ := Lib.hid (show Below w.heap.size w w0 by rw [← hw0]; exact (below_size.alloc (Nat.le_refl _) _).alloc (by simp) _)
  have O0 := Lib.hid (show Own w0 (w.heap.size + 1) 2 1 (some ⟨w.heap.size + 1, 0, none⟩) 0 0 [] by
    have := Own.lit (w := w.alloc (.cells #[i64 0, .slice none 0 0, .slice none 0 0] 59)) (B := w.heap.size + 1) (e := 2) (by simp)
    rw [← hw0]; simpa using this)
  have hz0 : w.heap.size + 1 ≤ w0.heap.size := by rw [← hw0]; simp
  have k2 := keepc BZ.out D.d2
  clear D
  go_enter Try.func67, Try.ntmps67
  go_wp2_with fail
  clear k2 hw0
  go_loopw [5, 6, 7] (fun cv av iv wr => ∃ (k : Nat) (ao : Addr) (l oc : Nat) (b : Int), k ≤ n0 ∧ iv = .int .i64 k ∧ cv = .slice (some ao) l oc ∧ av = .int .i64 b ∧ Hid ((preC W RP KS k).length = l) ∧ Hid (b = if hn < k then atC hn a W RP KS else a) ∧
    Hid (Own wr (w.heap.size + 1) 2 1 (some ao) l oc ((preC W RP KS k).map i64)) ∧ Hid (Blk wr w.heap.size 59 #[i64 0, .slice none 0 0, .slice none 0 0]) ∧ Below w.heap.size w wr ∧ w.heap.size + 1 ≤ wr.heap.size) (fun _ _ iv _ => n0 - (intOf iv).toNat)
  case atStart => exact ⟨0, _, 0, 0, a, by omega, rfl, rfl, rfl, rfl, by unfold Hid; rw [if_neg (by omega)], O0.out, Z0.out, BZ.out, hz0⟩
  case round =>
    obtain ⟨k, ao, l, oc, b, hkn, rfl, rfl, rfl, hl, hb', hO, hZ, hbw, hwz⟩ := hrel
    have HBW := Lib.hid hbw
    have hlb : l ≤ 100000 := by have := HPB.out k hkn; have := hl.out; omega
    have D := H.out.below hbw
    have d1 := D.d1; have d3 := D.d3; have d4 := D.d4; have d5 := D.d5
    by_cases hlt : k < n0
    · obtain ⟨ad0, t, rfl, _, ht, hct, hrt⟩ := RdII.at_ D.r0 hlt
      have htl := RdII.size D.r0 (List.mem_of_getElem? ht)
      have HT := Lib.hid (show RdI wr t.A t.n t.xs from hrt.head)
      have hwt : W.getD k [] = t.xs := by rw [← HW.out, List.getD_eq_getElem?_getD, List.getElem?_map, ht]; rfl
      have htn : t.n ≤ 100 := by rw [← htl, ← hwt]; exact (OK.out.w _ (mem_getD (by rw [HLW.out]; exact hlt))).1
      have HWT := Lib.hid hwt; have HTL := Lib.hid htl
      obtain ⟨b2, hb2⟩ : ∃ b2 : Int, (if k = hn then b + l else b) = b2 := ⟨_, rfl⟩
      have HB2 := Lib.hid (show b2 = if hn < k + 1 then atC hn a W RP KS else a by
        rw [← hb2, hb'.out]
        by_cases e : k = hn
        · subst e
          rw [if_pos rfl, if_neg (by omega), if_pos (by omega), atC, Int.toNat_natCast, hl.out]
        · rw [if_neg e]
          by_cases h1 : hn < k
          · rw [if_pos h1, if_pos (by omega)]
          · rw [if_neg h1, if_neg (by omega)])
      have hbb : -1 ≤ b ∧ b ≤ 200000 := by
        have h1 := hb'.out; have h2 := HAB.out; have h3 := HPB.out n0 (Nat.le_refl _)
        have h4 : (cellsC W RP KS).length ≤ 100000 := by unfold cellsC; rw [HLW.out]; exact h3
        split at h1 <;> omega
      have HB2' := Lib.hid hb2
      clear hrt ht hwt htl hbw hb2
      have fin : ∀ (w3 : World) (A3 : Option Addr) (l3 oc3 : Nat) (y : List Int), Own w3 (w.heap.size + 1) 2 1 A3 l3 oc3 (((preC W RP KS k).map i64 ++ t.xs.map i64) ++ y.map i64) → y = (if k < RP.length then repN (KS.getD k 0) (RP.getD k []) else []) → Own w3 (w.heap.size + 1) 2 1 A3 l3 oc3 ((preC W RP KS (k + 1)).map i64) := by
        intro w3 A3 l3 oc3 y h1 h2
        rw [preC, HWT.out, ← h2, List.map_append, List.map_append, ← List.append_assoc]; exact h1
      have FIN := Lib.hid fin; clear fin
      by_cases ek : k = hn
      · have eb : ((k : Int) == (hn : Int)) = true := by simp; omega
        have hbe : b + l = b2 := by rw [← HB2'.out, if_pos ek]
        have HBE := Lib.hid hbe
        clear ek hbe
        by_cases hl1 : k < n1
        · skip
          obtain ⟨ad1, u, rfl, _, hu, hcu, hru⟩ := RdII.at_ D.r1 hl1
          have hul := RdII.size D.r1 (List.mem_of_getElem? hu)
          have hwu : RP.getD k [] = u.xs := by rw [← HRP.out, List.getD_eq_getElem?_getD, List.getElem?_map, hu]; rfl
          have hun : u.n ≤ 20 := by rw [← hul, ← hwu]; exact (OK.out.p _ (mem_getD (by rw [HLR.out]; exact hl1))).2.1
          obtain ⟨adc, x, rfl, _, hx, hcx⟩ := (H'.out.below HBW.out).at_ (k := k) (by omega)
          obtain ⟨ado, o, rfl, _, ho, hco⟩ := D.r2.at_ (k := k) (by omega)
          have hxo := HK.out.le k x o hx ho
          obtain ⟨kk, hkk⟩ : ∃ kk : Nat, (kk : Int) = x + o := ⟨(x + o).toNat, by omega⟩
          have hkb : kk ≤ 1064 := by omega
          have HY := Lib.hid (show repN kk u.xs = if k < RP.length then repN (KS.getD k 0) (RP.getD k []) else [] by rw [if_pos (by rw [HLR.out]; exact hl1), hwu, ← HKS.out, ksOf_at hx ho, ← hkk, Int.toNat_natCast])
          have HU := Lib.hid (show RdI wr u.A u.n u.xs from hru.head)
          have HYL := Lib.hid (show (repN kk u.xs).length ≤ 21280 by rw [repN_len, hul]; exact Nat.le_trans (Nat.mul_le_mul hkb hun) (by omega))
          have vx : IntKind.i64.wrap (x + o) = (kk : Int) := (IntWalk.i64_in _ (by omega)).trans hkk.symm
          have hkl : k < nc ∧ k < n2 := by omega
          have HQU := Lib.hid hu; have HQX := Lib.hid hx; have HQO := Lib.hid ho
          clear hru hu hul hwu hx ho hxo hkk
          clear D
          go_wp2_with (at_builtin; refine wp_appA (by rfl) _ _ (by rfl) (w.heap.size + 1) (some ao) l oc ((preC W RP KS k).map i64) (by rfl) (by exact hO.out) t.A t.n t.c t.xs (by rfl) (by exact HT.out) (by omega) hwz ?_; intro A2' cap w2 own2 hb2 hk2 hg2 hz2; have q4 := keepB hb2 (show (⟨g, 4, none⟩ : Addr).block < w.heap.size + 1 from hgl) d4)
          obtain ⟨a2, rfl⟩ := some_of hg2
          have O2 := Lib.hid own2
          have Z2 := Lib.hid (hZ.out.below hb2 (by omega))
          have B2 := Lib.hid (HBW.out.trans (hb2.mono (by omega)))
          have N2 := Lib.hid (B2.out)
          clear hk2 hg2 own2
          have D2 := H.out.below B2.out
          have p4 := D2.d4; have p5 := D2.d5
          have hcu2 : w2.cell? (ad1.add k) = some (.slice u.A u.n u.c) := by have := RdII.at_ D2.r1 hl1; obtain ⟨_, u', e, _, hu', hc', _⟩ := this; injection e with e; subst e; have hq := HQU.out; rw [hu'] at hq; injection hq with hq; subst hq; exact hc'
          obtain ⟨_, x', ex, _, hx2, hcx2⟩ := (H'.out.below B2.out).at_ (k := k) (by omega)
          injection ex with ex; subst ex
          obtain rfl : x = x' := by have := HQX.out; rw [this] at hx2; injection hx2
          obtain ⟨_, o', eo, _, ho2, hco2⟩ := D2.r2.at_ (k := k) (by omega)
          injection eo with eo; subst eo
          obtain rfl : o = o' := by have := HQO.out; rw [this] at ho2; injection ho2
          have HU2 := Lib.hid (show RdI w2 u.A u.n u.xs from (D2.r1.tail (bodyI u) (List.mem_map_of_mem (List.mem_of_getElem? HQU.out))))
          clear D2 hx2 ho2 hcx hco hcu hct d1 d3 d4 d5 q4
          have y0 := Ext.cell p4; have y1 := Ext.cell hcu2; have y2 := Ext.cell hcx2; have y3 := Ext.cell p5; have y4 := Ext.cell hco2
          go_wp2_with fail
          refine Mix.wp_region_mix [0, 0, 0, 0, 3, 0, 0, 3, 0, 0, 0, 3, 0, 0, 0, 3, 0, 0, 3, 0, 1, 2, 0] (fun w' => ∃ x : Ext w2, w' = x.w) (by kernel_rfl) (by kernel_rfl) (InExt.drew _) ?_
          repeat (first | (refine Mix.wpMix_read (by rfl) ?_; go_big_quiet_step (fail); refine wpQuiet_nil ?_) | (refine Mix.wpMix_pure (by rfl) ?_; go_big_quiet_step (fail); refine wpQuiet_nil ?_))
          refine Mix.wpMix_chg (by rfl) (fun K hK => ?_)
          go_wp2_with fail
          refine (l03PowerB_c u.A u.n u.c u.xs kk _ (by exact HU2.out) (by omega) (by omega)).mono ?_
          rintro e w3 ⟨A4, n4, c4, rfl, hR4, hb4⟩
          have e4 := below_of_drew hb4
          have HR4 := Lib.hid hR4; have E4 := Lib.hid e4
          have h4l : n4 ≤ 21280 := by have h1 := hR4.len; have h2 := HYL.out; omega
          have O3 := Lib.hid (O2.out.keep e4)
          have hz3 := e4.size
          clear hb4 hR4
          go_wp2_with fail
          refine hK _ _ ⟨⟨_, e4⟩, rfl⟩ ?_
          clear hK K
          clear y0 y1 y2 y3 y4 vx
          repeat (first | (refine Mix.wpMix_read (by rfl) ?_; go_big_quiet_step (fail); refine wpQuiet_nil ?_) | (refine Mix.wpMix_pure (by rfl) ?_; go_big_quiet_step (fail); refine wpQuiet_nil ?_))
          refine Mix.wpMix_tail (by rfl) (fun K hK => ?_)
          refine wp_appA (by rfl) _ _ (by rfl) (w.heap.size + 1) (some a2) (l + t.n) cap ((preC W RP KS k).map i64 ++ t.xs.map i64) (by rfl) (by exact O3.out) A4 n4 c4 (repN kk u.xs) (by rfl) (by exact HR4.out) (by omega) (by omega) ?_
          intro A5 cap5 w5 own5 hb5 hk5 hg5 hz5
          obtain ⟨a5, rfl⟩ := some_of hg5
          have O5 := Lib.hid (FIN.out _ _ _ _ _ own5 HY.out)
          have Z5 := Lib.hid (((Z2.out.keep E4.out).below hb5 (by omega)))
          have B5 := Lib.hid (B2.out.trans ((E4.out.mono B2.out.size).trans (hb5.mono (by omega))))
          have LEN := Lib.hid (show (preC W RP KS (k + 1)).length = l + t.n + n4 by have h1 := O5.out.len; simpa using h1)
          clear own5 hb5 hk5 hg5 hb2
          go_wp2_with fail
          refine hK _ _ ?_
          clear hK K
          repeat (first | (refine Mix.wpMix_read (by rfl) ?_; go_big_quiet_step (fail); refine wpQuiet_nil ?_) | (refine Mix.wpMix_pure (by rfl) ?_; go_big_quiet_step (fail); refine wpQuiet_nil ?_))
          (refine Mix.wpMix_nil ?_; try simp only [Exit.then])
          go_wp2_with fail
          go_roundw
          case rel => exact ⟨k + 1, a5, l + t.n + n4, cap5, b2, by omega, by go_num, rfl, by rw [← HBE.out], LEN.out, HB2.out, O5.out, Z5.out, B5.out, by omega⟩
          case measure => simp [intOf]; omega
        · skip
          have HY := Lib.hid (show ([] : List Int) = if k < RP.length then repN (KS.getD k 0) (RP.getD k []) else [] by rw [if_neg (by rw [HLR.out]; exact hl1)])
          clear D
          go_wp2_with (at_builtin; refine wp_appA (by rfl) _ _ (by rfl) (w.heap.size + 1) (some ao) l oc ((preC W RP KS k).map i64) (by rfl) (by exact hO.out) t.A t.n t.c t.xs (by rfl) (by exact HT.out) (by omega) hwz ?_; intro A2' cap w2 own2 hb2 hk2 hg2 hz2; have q4 := keepB hb2 (show (⟨g, 4, none⟩ : Addr).block < w.heap.size + 1 from hgl) d4)
          obtain ⟨a2, rfl⟩ := some_of hg2
          have O2 := Lib.hid own2
          have Z2 := Lib.hid (hZ.out.below hb2 (by omega))
          have B2 := Lib.hid (HBW.out.trans (hb2.mono (by omega)))
          have N2 := Lib.hid (B2.out)
          clear hk2 hg2 own2
          have O5 := Lib.hid (FIN.out _ _ _ _ [] (by simpa using O2.out) HY.out)
          have LEN := Lib.hid (show (preC W RP KS (k + 1)).length = l + t.n by have h1 := O5.out.len; simpa using h1)
          have D2 := H.out.below B2.out
          have p4 := D2.d4
          clear D2 hct d1 d3 d4 d5 hb2 q4
          go_wp2_with fail
          go_roundw
          case rel => exact ⟨k + 1, a2, l + t.n, cap, b2, by omega, by go_num, rfl, by rw [← HBE.out], LEN.out, HB2.out, O5.out, Z2.out, B2.out, by omega⟩
          case measure => simp [intOf]; omega
      · have eb : ((k : Int) == (hn : Int)) = false := by simp; omega
        have hbe : b = b2 := by rw [← HB2'.out, if_neg ek]
        have HBE := Lib.hid hbe
        clear ek hbe
        by_cases hl1 : k < n1
        · skip
          obtain ⟨ad1, u, rfl, _, hu, hcu, hru⟩ := RdII.at_ D.r1 hl1
          have hul := RdII.size D.r1 (List.mem_of_getElem? hu)
          have hwu : RP.getD k [] = u.xs := by rw [← HRP.out, List.getD_eq_getElem?_getD, List.getElem?_map, hu]; rfl
          have hun : u.n ≤ 20 := by rw [← hul, ← hwu]; exact (OK.out.p _ (mem_getD (by rw [HLR.out]; exact hl1))).2.1
          obtain ⟨adc, x, rfl, _, hx, hcx⟩ := (H'.out.below HBW.out).at_ (k := k) (by omega)
          obtain ⟨ado, o, rfl, _, ho, hco⟩ := D.r2.at_ (k := k) (by omega)
          have hxo := HK.out.le k x o hx ho
          obtain ⟨kk, hkk⟩ : ∃ kk : Nat, (kk : Int) = x + o := ⟨(x + o).toNat, by omega⟩
          have hkb : kk ≤ 1064 := by omega
          have HY := Lib.hid (show repN kk u.xs = if k < RP.length then repN (KS.getD k 0) (RP.getD k []) else [] by rw [if_pos (by rw [HLR.out]; exact hl1), hwu, ← HKS.out, ksOf_at hx ho, ← hkk, Int.toNat_natCast])
          have HU := Lib.hid (show RdI wr u.A u.n u.xs from hru.head)
          have HYL := Lib.hid (show (repN kk u.xs).length ≤ 21280 by rw [repN_len, hul]; exact Nat.le_trans (Nat.mul_le_mul hkb hun) (by omega))
          have vx : IntKind.i64.wrap (x + o) = (kk : Int) := (IntWalk.i64_in _ (by omega)).trans hkk.symm
          have hkl : k < nc ∧ k < n2 := by omega
          have HQU := Lib.hid hu; have HQX := Lib.hid hx; have HQO := Lib.hid ho
          clear hru hu hul hwu hx ho hxo hkk
          clear D
          go_wp2_with (at_builtin; refine wp_appA (by rfl) _ _ (by rfl) (w.heap.size + 1) (some ao) l oc ((preC W RP KS k).map i64) (by rfl) (by exact hO.out) t.A t.n t.c t.xs (by rfl) (by exact HT.out) (by omega) hwz ?_; intro A2' cap w2 own2 hb2 hk2 hg2 hz2; have q4 := keepB hb2 (show (⟨g, 4, none⟩ : Addr).block < w.heap.size + 1 from hgl) d4)
          obtain ⟨a2, rfl⟩ := some_of hg2
          have O2 := Lib.hid own2
          have Z2 := Lib.hid (hZ.out.below hb2 (by omega))
          have B2 := Lib.hid (HBW.out.trans (hb2.mono (by omega)))
          have N2 := Lib.hid (B2.out)
          clear hk2 hg2 own2
          have D2 := H.out.below B2.out
          have p4 := D2.d4; have p5 := D2.d5
          have hcu2 : w2.cell? (ad1.add k) = some (.slice u.A u.n u.c) := by have := RdII.at_ D2.r1 hl1; obtain ⟨_, u', e, _, hu', hc', _⟩ := this; injection e with e; subst e; have hq := HQU.out; rw [hu'] at hq; injection hq with hq; subst hq; exact hc'
          obtain ⟨_, x', ex, _, hx2, hcx2⟩ := (H'.out.below B2.out).at_ (k := k) (by omega)
          injection ex with ex; subst ex
          obtain rfl : x = x' := by have := HQX.out; rw [this] at hx2; injection hx2
          obtain ⟨_, o', eo, _, ho2, hco2⟩ := D2.r2.at_ (k := k) (by omega)
          injection eo with eo; subst eo
          obtain rfl : o = o' := by have := HQO.out; rw [this] at ho2; injection ho2
          have HU2 := Lib.hid (show RdI w2 u.A u.n u.xs from (D2.r1.tail (bodyI u) (List.mem_map_of_mem (List.mem_of_getElem? HQU.out))))
          clear D2 hx2 ho2 hcx hco hcu hct d1 d3 d4 d5 q4
          have y0 := Ext.cell p4; have y1 := Ext.cell hcu2; have y2 := Ext.cell hcx2; have y3 := Ext.cell p5; have y4 := Ext.cell hco2
          go_wp2_with fail
          refine Mix.wp_region_mix [0, 0, 0, 0, 3, 0, 0, 3, 0, 0, 0, 3, 0, 0, 0, 3, 0, 0, 3, 0, 1, 2, 0] (fun w' => ∃ x : Ext w2, w' = x.w) (by kernel_rfl) (by kernel_rfl) (InExt.drew _) ?_
          repeat (first | (refine Mix.wpMix_read (by rfl) ?_; go_big_quiet_step (fail); refine wpQuiet_nil ?_) | (refine Mix.wpMix_pure (by rfl) ?_; go_big_quiet_step (fail); refine wpQuiet_nil ?_))
          refine Mix.wpMix_chg (by rfl) (fun K hK => ?_)
          go_wp2_with fail
          refine (l03PowerB_c u.A u.n u.c u.xs kk _ (by exact HU2.out) (by omega) (by omega)).mono ?_
          rintro e w3 ⟨A4, n4, c4, rfl, hR4, hb4⟩
          have e4 := below_of_drew hb4
          have HR4 := Lib.hid hR4; have E4 := Lib.hid e4
          have h4l : n4 ≤ 21280 := by have h1 := hR4.len; have h2 := HYL.out; omega
          have O3 := Lib.hid (O2.out.keep e4)
          have hz3 := e4.size
          clear hb4 hR4
          go_wp2_with fail
          refine hK _ _ ⟨⟨_, e4⟩, rfl⟩ ?_
          clear hK K
          clear y0 y1 y2 y3 y4 vx
          repeat (first | (refine Mix.wpMix_read (by rfl) ?_; go_big_quiet_step (fail); refine wpQuiet_nil ?_) | (refine Mix.wpMix_pure (by rfl) ?_; go_big_quiet_step (fail); refine wpQuiet_nil ?_))
          refine Mix.wpMix_tail (by rfl) (fun K hK => ?_)
          refine wp_appA (by rfl) _ _ (by rfl) (w.heap.size + 1) (some a2) (l + t.n) cap ((preC W RP KS k).map i64 ++ t.xs.map i64) (by rfl) (by exact O3.out) A4 n4 c4 (repN kk u.xs) (by rfl) (by exact HR4.out) (by omega) (by omega) ?_
          intro A5 cap5 w5 own5 hb5 hk5 hg5 hz5
          obtain ⟨a5, rfl⟩ := some_of hg5
          have O5 := Lib.hid (FIN.out _ _ _ _ _ own5 HY.out)
          have Z5 := Lib.hid (((Z2.out.keep E4.out).below hb5 (by omega)))
          have B5 := Lib.hid (B2.out.trans ((E4.out.mono B2.out.size).trans (hb5.mono (by omega))))
          have LEN := Lib.hid (show (preC W RP KS (k + 1)).length = l + t.n + n4 by have h1 := O5.out.len; simpa using h1)
          clear own5 hb5 hk5 hg5 hb2
          go_wp2_with fail
          refine hK _ _ ?_
          clear hK K
          repeat (first | (refine Mix.wpMix_read (by rfl) ?_; go_big_quiet_step (fail); refine wpQuiet_nil ?_) | (refine Mix.wpMix_pure (by rfl) ?_; go_big_quiet_step (fail); refine wpQuiet_nil ?_))
          (refine Mix.wpMix_nil ?_; try simp only [Exit.then])
          go_wp2_with fail
          go_roundw
          case rel => exact ⟨k + 1, a5, l + t.n + n4, cap5, b2, by omega, by go_num, rfl, by rw [← HBE.out], LEN.out, HB2.out, O5.out, Z5.out, B5.out, by omega⟩
          case measure => simp [intOf]; omega
        · skip
          have HY := Lib.hid (show ([] : List Int) = if k < RP.length then repN (KS.getD k 0) (RP.getD k []) else [] by rw [if_neg (by rw [HLR.out]; exact hl1)])
          clear D
          go_wp2_with (at_builtin; refine wp_appA (by rfl) _ _ (by rfl) (w.heap.size + 1) (some ao) l oc ((preC W RP KS k).map i64) (by rfl) (by exact hO.out) t.A t.n t.c t.xs (by rfl) (by exact HT.out) (by omega) hwz ?_; intro A2' cap w2 own2 hb2 hk2 hg2 hz2; have q4 := keepB hb2 (show (⟨g, 4, none⟩ : Addr).block < w.heap.size + 1 from hgl) d4)
          obtain ⟨a2, rfl⟩ := some_of hg2
          have O2 := Lib.hid own2
          have Z2 := Lib.hid (hZ.out.below hb2 (by omega))
          have B2 := Lib.hid (HBW.out.trans (hb2.mono (by omega)))
          have N2 := Lib.hid (B2.out)
          clear hk2 hg2 own2
          have O5 := Lib.hid (FIN.out _ _ _ _ [] (by simpa using O2.out) HY.out)
          have LEN := Lib.hid (show (preC W RP KS (k + 1)).length = l + t.n by have h1 := O5.out.len; simpa using h1)
          have D2 := H.out.below B2.out
          have p4 := D2.d4
          clear D2 hct d1 d3 d4 d5 hb2 q4
          go_wp2_with fail
          go_roundw
          case rel => exact ⟨k + 1, a2, l + t.n, cap, b2, by omega, by go_num, rfl, by rw [← HBE.out], LEN.out, HB2.out, O5.out, Z2.out, B2.out, by omega⟩
          case measure => simp [intOf]; omega
    · obtain rfl : k = n0 := by omega
      have HBA := Lib.hid (show b = atC hn a W RP KS by rw [hb'.out, if_pos (by omega)])
      have HLL := Lib.hid (show (cellsC W RP KS).length = l by unfold cellsC; rw [HLW.out]; exact hl.out)
      have HOO := Lib.hid (show Own wr (w.heap.size + 1) 2 1 (some ao) l oc ((cellsC W RP KS).map i64) by unfold cellsC; rw [HLW.out]; exact hO.out)
      have hbr : -1 ≤ b ∧ b ≤ l := by have h1 := HBA.out; have h2 := HAB.out; have h3 := HLL.out; omega
      obtain ⟨CS, hCS⟩ : ∃ CS, cellsC W RP KS = CS := ⟨_, rfl⟩
      obtain ⟨D0, hD⟩ : ∃ D0, cfgF s (hn : Int) a W RP KS = D0 := ⟨_, rfl⟩
      have HDC := Lib.hid hD
      have HD0 := Lib.hid (show D0 = (s, cutL CS b, cutR CS b) by rw [← hD, cfgF, hCS, HBA.out])
      rw [hCS] at HLL HOO
      clear hb' hl hO HAB HBA HPB hCS hD d1 d4 d5 D
      obtain ⟨c1', b5, hcb⟩ : ∃ (c1 : List Int) (b1 : Nat), (b < 0 → c1 = 0 :: CS ∧ b1 = 0) ∧ (0 ≤ b → c1 = CS ∧ b1 = b.toNat) := by
        by_cases h : b < 0
        · exact ⟨0 :: CS, 0, fun _ => ⟨rfl, rfl⟩, fun h' => by omega⟩
        · exact ⟨CS, b.toNat, fun h' => absurd h' h, fun _ => ⟨rfl, rfl⟩⟩
      have HCB := Lib.hid hcb; clear hcb
      go_upto_if 71 with (fail)
      go_cut [5, 6] (fun cv av wx => CfgCut (w.heap.size + 1) 2 c1' b5 wr cv av wx)
      case first =>
        by_cases hneg : b < 0
        · obtain ⟨hc1, hb1⟩ := HCB.out.1 hneg
          have kneg : decide (b < 0) = true := decide_eq_true hneg
          have O1 := Lib.hid (Own.lit1c (w := wr) (B := w.heap.size + 1) (e := 2) (v := i64 0) hwz)
          have HC1 := Lib.hid hc1; have HB1 := Lib.hid hb1
          clear hc1 hb1
          go_wp2_with (at_builtin; refine wp_appA (by rfl) _ _ (by rfl) (w.heap.size + 1) (some ⟨wr.heap.size, 0, none⟩) 1 1 [i64 0] (by rfl) (by exact O1.out) (some ao) l oc CS (by rfl) (by exact own_rd (HOO.out.alloc _)) (by omega) (by simp; omega) ?_; intro A3 cap w3 own3 hb3 hk3 hg3 hz3)
          obtain ⟨a3, rfl⟩ := some_of hg3
          have O3 := Lib.hid own3; have B3 := Lib.hid (show Below (w.heap.size + 1) wr w3 from ((below_size.alloc (Nat.le_refl _) (.cells #[i64 0] 2)).mono hwz).trans hb3)
          clear own3 hb3 hk3 hg3 hz3
          go_wp2_with fail
          go_meet
          exact ⟨a3, 1 + l, cap, rfl, by rw [HB1.out]; rfl, by rw [HC1.out, List.length_cons, HLL.out]; omega, by rw [HC1.out]; exact O3.out, B3.out⟩
        · obtain ⟨hc1, hb1⟩ := HCB.out.2 (by omega)
          have kneg : decide (b < 0) = false := decide_eq_false hneg
          have HC1 := Lib.hid hc1; have HB1 := Lib.hid hb1
          clear hc1 hb1
          go_wp2_with fail
          go_meet
          exact ⟨ao, l, oc, rfl, by rw [HB1.out, Int.toNat_of_nonneg (by omega)], by rw [HC1.out, HLL.out], by rw [HC1.out]; exact HOO.out, Below.refl _ _⟩
      case rest =>
        obtain ⟨ao1, l1, oc1, rfl, rfl, hl1, hO1, hB1⟩ := hcut
        have HO1 := Lib.hid hO1; have HBX := Lib.hid hB1
        have hlb1 : l1 ≤ 100001 ∧ b5 ≤ l1 := by
          rcases (show b < 0 ∨ 0 ≤ b by omega) with h | h
          · have := HCB.out.1 h; rw [hl1, this.1, List.length_cons, HLL.out]; omega
          · have := HCB.out.2 h; rw [hl1, this.1, HLL.out]; omega
        have HL1' := Lib.hid hl1
        have hwc := hB1.size
        obtain ⟨c5, hc5⟩ : ∃ c5 : List Int, (if l1 ≤ b5 then c1' ++ [0] else c1') = c5 := ⟨_, rfl⟩
        have HC5 := Lib.hid hc5
        clear hO1 hB1 hl1 hc5
        go_upto_if 78 with (fail)
        go_cut [5] (fun cv wx => CfgCut1 (w.heap.size + 1) 2 c5 wc cv wx)
        case first =>
          by_cases hge : l1 ≤ b5
          · have kge : decide ((l1 : Int) ≤ (b5 : Int)) = true := decide_eq_true (by omega)
            have X1 := Lib.hid (Blk.new wc 2 #[i64 0])
            have HC5' := Lib.hid (show c1' ++ [0] = c5 by rw [← HC5.out, if_pos hge])
            go_wp2_with (at_builtin; refine wp_appA (by rfl) _ _ (by rfl) (w.heap.size + 1) (some ao1) l1 oc1 (c1'.map i64) (by rfl) (by exact HO1.out.alloc _) (some ⟨wc.heap.size, 0, none⟩) 1 1 [0] (by rfl) (by exact X1.out.rd (by rfl) (by simp)) (by omega) (by simp; omega) ?_; intro A3 cap w3 own3 hb3 hk3 hg3 hz3)
            obtain ⟨a3, rfl⟩ := some_of hg3
            have O3 := Lib.hid own3; have B3 := Lib.hid (show Below (w.heap.size + 1) wc w3 from ((below_size.alloc (Nat.le_refl _) (.cells #[i64 0] 2)).mono (by omega)).trans hb3)
            clear own3 hb3 hk3 hg3 hz3
            go_wp2_with fail
            go_meet
            exact ⟨a3, l1 + 1, cap, rfl, by rw [← HC5'.out, List.length_append, ← HL1'.out]; rfl, by rw [← HC5'.out, List.map_append]; exact O3.out, B3.out⟩
          · have kge : decide ((l1 : Int) ≤ (b5 : Int)) = false := decide_eq_false (by omega)
            have HC5' := Lib.hid (show c1' = c5 by rw [← HC5.out, if_neg hge])
            go_wp2_with fail
            go_meet
            exact ⟨ao1, l1, oc1, rfl, by rw [← HC5'.out]; exact HL1'.out, by rw [← HC5'.out]; exact HO1.out, Below.refl _ _⟩
        case rest =>
          obtain ⟨ao, l5, oc5, rfl, hl5, hO5, hB5⟩ := hcut
          have HBW := Lib.hid (HBW.out.trans ((HBX.out.mono (by omega)).trans (hB5.mono (by omega))))
          have HZ := Lib.hid ((hZ.out.below HBX.out (by omega)).below hB5 (by omega))
          have hwc2 := hB5.size
          have HRD := Lib.hid (own_rd hO5)
          have hcap := hO5.cap
          have HD := Lib.hid (show D0 = (s, trimL (c5.take b5).reverse, trimL (c5.drop b5)) by
            rw [HD0.out, ← HC5.out]
            rcases (show b < 0 ∨ 0 ≤ b by omega) with h | h
            · obtain ⟨e1, e2⟩ := HCB.out.1 h
              have hl := HL1'.out
              rw [e1, List.length_cons] at hl
              rw [if_neg (by omega), e1, e2, cutL, cutR, if_pos h, if_pos h]; rfl
            · obtain ⟨e1, e2⟩ := HCB.out.2 h
              have hl := HL1'.out
              rw [e1] at hl
              rw [cutL, cutR, if_neg (by omega), if_neg (by omega), ← e2, e1]
              by_cases hge : l1 ≤ b5
              · rw [if_pos hge, List.take_append_of_le_length (by omega), List.drop_append_of_le_length (by omega), trimL_snoc0]
              · rw [if_neg hge])
          have hbl5 : b5 < l5 := by
            have h5 := hl5
            rw [← HC5.out] at h5
            by_cases hge : l1 ≤ b5
            · rw [if_pos hge, List.length_append, ← HL1'.out] at h5; simp at h5; omega
            · rw [if_neg hge, ← HL1'.out] at h5; omega
          have hl5b : l5 ≤ 200000 := by
            have h5 := hl5
            rw [← HC5.out] at h5
            by_cases hge : l1 ≤ b5
            · rw [if_pos hge, List.length_append, ← HL1'.out] at h5; simp at h5; omega
            · rw [if_neg hge, ← HL1'.out] at h5; omega
          have HD0' := Lib.hid (H.out.below HBW.out).d0
          clear hl5 hO5 hB5 HCB HC5 HL1'
          go_wp2_with fail
          have EW : ∀ w1, Below wc.drew.heap.size wc.drew w1 → Below wc.heap.size wc w1 := fun w1 hb => below_of_drew hb
          refine MixA.wp_facts 14 [82, 83, 84, 85, 86, 87, 88, 89, 90, 91, 92, 93, 94, 95] [[], [0], [1], [2], [], [], [4, 5], [6], [7], [], [], [9, 10], [11], [3, 8, 12]]
            [MixA.fP (.pointer (some ⟨g, 0, none⟩)),
             MixA.fP (.pointer (some ⟨g, 0, none⟩)),
             MixA.fP (.pointer (some ⟨g, 0, none⟩)),
             MixA.fP (.int .i64 s),
             MixA.fP (.slice (some ao) l5 oc5),
             MixA.fP (.int .i64 b5),
             MixA.fP (.slice (some ao) b5 oc5),
             fOc b5 ((c5.take b5).reverse),
             fOt (trimL (c5.take b5).reverse),
             MixA.fP (.slice (some ao) l5 oc5),
             MixA.fP (.int .i64 b5),
             MixA.fP (.slice (some (ao.add b5)) (l5 - b5) (oc5 - b5)),
             fOt (trimL (c5.drop b5)),
             fA3]
            (by kernel_rfl) (by kernel_rfl) (fun t ht => Nat.lt_of_lt_of_eq (show t < 96 by revert t; decide) rfl) ?_ ?_
          · intro f hf
            simp only [List.mem_cons, List.not_mem_nil, or_false] at hf
            rcases hf with rfl | rfl | rfl | rfl | rfl | rfl | rfl | rfl | rfl | rfl | rfl | rfl | rfl | rfl
            · exact MixA.fP_st _
            · exact MixA.fP_st _
            · exact MixA.fP_st _
            · exact MixA.fP_st _
            · exact MixA.fP_st _
            · exact MixA.fP_st _
            · exact MixA.fP_st _
            · exact fOc_st _ _
            · exact fOt_st _
            · exact MixA.fP_st _
            · exact MixA.fP_st _
            · exact MixA.fP_st _
            · exact fOt_st _
            · exact fA3_st
          simp only [MixA.EachF]
          refine ⟨?_, ?_, ?_, ?_, ?_, ?_, ?_, ?_, ?_, ?_, ?_, ?_, ?_, ?_, ?_⟩
          · intro a1 w1 hf
            refine MixA.hop ⟨#[(.pointer (some ⟨g, 0, none⟩)), undef, undef, undef, undef, undef, undef, undef, undef, undef, undef, undef, undef, undef, undef, undef, undef, undef, undef, undef, undef, undef, undef, undef, undef, undef, undef, undef, undef, undef, undef, undef, undef, undef, undef, undef, undef, undef, undef, undef, undef, undef, undef, undef, undef, undef, undef, undef, undef, undef, undef, undef, undef, undef, undef, undef, undef, undef, undef, undef, undef, undef, undef, undef, undef, undef, undef, undef, undef, undef, undef, undef, undef, undef, undef, undef, undef, undef, undef, undef, undef, undef, undef], []⟩ (by intro cs b e; cases e) rfl (show 82 < 83 by decide) ?_ ?_
            · intro x hx
              simp [Op.operands] at hx
              rcases hx with rfl
              · exact (hf.was (t := 0) (by decide) rfl).trans rfl
            go_wp2_with fail
            first | exact ⟨below_size, rfl⟩ | exact ⟨_, rfl, below_size, rfl⟩
          · intro a1 w1 hf
            refine MixA.hop ⟨#[undef, undef, undef, undef, undef, undef, undef, undef, undef, undef, undef, undef, undef, undef, undef, undef, undef, undef, undef, undef, undef, undef, undef, undef, undef, undef, undef, undef, undef, undef, undef, undef, undef, undef, undef, undef, undef, undef, undef, undef, undef, undef, undef, undef, undef, undef, undef, undef, undef, undef, undef, undef, undef, undef, undef, undef, undef, undef, undef, undef, undef, undef, undef, undef, undef, undef, undef, undef, undef, undef, undef, undef, undef, undef, undef, undef, undef, undef, undef, undef, undef, undef, (.pointer (some ⟨g, 0, none⟩)), undef], []⟩ (by intro cs b e; cases e) rfl (show 83 < 84 by decide) ?_ ?_
            · intro x hx
              simp [Op.operands] at hx
              rcases hx with rfl
              · exact (hf.pure (j := 0) (by decide) rfl).trans rfl
            go_wp2_with fail
            first | exact ⟨below_size, rfl⟩ | exact ⟨_, rfl, below_size, rfl⟩
          · intro a1 w1 hf
            refine MixA.hop ⟨#[undef, undef, undef, undef, undef, undef, undef, undef, undef, undef, undef, undef, undef, undef, undef, undef, undef, undef, undef, undef, undef, undef, undef, undef, undef, undef, undef, undef, undef, undef, undef, undef, undef, undef, undef, undef, undef, undef, undef, undef, undef, undef, undef, undef, undef, undef, undef, undef, undef, undef, undef, undef, undef, undef, undef, undef, undef, undef, undef, undef, undef, undef, undef, undef, undef, undef, undef, undef, undef, undef, undef, undef, undef, undef, undef, undef, undef, undef, undef, undef, undef, undef, undef, (.pointer (some ⟨g, 0, none⟩)), undef], []⟩ (by intro cs b e; cases e) rfl (show 84 < 85 by decide) ?_ ?_
            · intro x hx
              simp [Op.operands] at hx
              rcases hx with rfl
              · exact (hf.pure (j := 1) (by decide) rfl).trans rfl
            go_wp2_with fail
            first | exact ⟨below_size, rfl⟩ | exact ⟨_, rfl, below_size, rfl⟩
          · intro a1 w1 hf
            have E1 := EW w1 hf.below
            have hc0 : w1.cell? ⟨g, 0, none⟩ = some (i64 s) := keepc E1 HD0'.out
            clear E1
            refine MixA.hop ⟨#[undef, undef, undef, undef, undef, undef, undef, undef, undef, undef, undef, undef, undef, undef, undef, undef, undef, undef, undef, undef, undef, undef, undef, undef, undef, undef, undef, undef, undef, undef, undef, undef, undef, undef, undef, undef, undef, undef, undef, undef, undef, undef, undef, undef, undef, undef, undef, undef, undef, undef, undef, undef, undef, undef, undef, undef, undef, undef, undef, undef, undef, undef, undef, undef, undef, undef, undef, undef, undef, undef, undef, undef, undef, undef, undef, undef, undef, undef, undef, undef, undef, undef, undef, undef, (.pointer (some ⟨g, 0, none⟩)), undef], []⟩ (by intro cs b e; cases e) rfl (show 85 < 86 by decide) ?_ ?_
            · intro x hx
              simp [Op.operands] at hx
              rcases hx with rfl
              · exact (hf.pure (j := 2) (by decide) rfl).trans rfl
            go_wp2_with fail
            exact ⟨below_size, rfl⟩
          · intro a1 w1 hf
            refine MixA.hop ⟨#[undef, undef, undef, undef, undef, (.slice (some ao) l5 oc5), undef, undef, undef, undef, undef, undef, undef, undef, undef, undef, undef, undef, undef, undef, undef, undef, undef, undef, undef, undef, undef, undef, undef, undef, undef, undef, undef, undef, undef, undef, undef, undef, undef, undef, undef, undef, undef, undef, undef, undef, undef, undef, undef, undef, undef, undef, undef, undef, undef, undef, undef, undef, undef, undef, undef, undef, undef, undef, undef, undef, undef, undef, undef, undef, undef, undef, undef, undef, undef, undef, undef, undef, undef, undef, undef, undef, undef, undef, undef, undef, undef], []⟩ (by intro cs b e; cases e) rfl (show 86 < 87 by decide) ?_ ?_
            · intro x hx
              simp [Op.operands] at hx
              rcases hx with rfl
              · exact (hf.was (t := 5) (by decide) rfl).trans rfl
            go_wp2_with fail
            first | exact ⟨below_size, rfl⟩ | exact ⟨_, rfl, below_size, rfl⟩
          · intro a1 w1 hf
            refine MixA.hop ⟨#[undef, undef, undef, undef, undef, undef, (.int .i64 b5), undef, undef, undef, undef, undef, undef, undef, undef, undef, undef, undef, undef, undef, undef, undef, undef, undef, undef, undef, undef, undef, undef, undef, undef, undef, undef, undef, undef, undef, undef, undef, undef, undef, undef, undef, undef, undef, undef, undef, undef, undef, undef, undef, undef, undef, undef, undef, undef, undef, undef, undef, undef, undef, undef, undef, undef, undef, undef, undef, undef, undef, undef, undef, undef, undef, undef, undef, undef, undef, undef, undef, undef, undef, undef, undef, undef, undef, undef, undef, undef, undef], []⟩ (by intro cs b e; cases e) rfl (show 87 < 88 by decide) ?_ ?_
            · intro x hx
              simp [Op.operands] at hx
              rcases hx with rfl
              · exact (hf.was (t := 6) (by decide) rfl).trans rfl
            go_wp2_with fail
            first | exact ⟨below_size, rfl⟩ | exact ⟨_, rfl, below_size, rfl⟩
          · intro a1 w1 hf
            refine MixA.hop ⟨#[undef, undef, undef, undef, undef, undef, undef, undef, undef, undef, undef, undef, undef, undef, undef, undef, undef, undef, undef, undef, undef, undef, undef, undef, undef, undef, undef, undef, undef, undef, undef, undef, undef, undef, undef, undef, undef, undef, undef, undef, undef, undef, undef, undef, undef, undef, undef, undef, undef, undef, undef, undef, undef, undef, undef, undef, undef, undef, undef, undef, undef, undef, undef, undef, undef, undef, undef, undef, undef, undef, undef, undef, undef, undef, undef, undef, undef, undef, undef, undef, undef, undef, undef, undef, undef, undef, (.slice (some ao) l5 oc5), (.int .i64 b5), undef], []⟩ (by intro cs b e; cases e) rfl (show 88 < 89 by decide) ?_ ?_
            · intro x hx
              simp [Op.operands] at hx
              rcases hx with rfl | rfl
              · exact (hf.pure (j := 4) (by decide) rfl).trans rfl
              · exact (hf.pure (j := 5) (by decide) rfl).trans rfl
            go_wp2_with fail
            first | exact ⟨below_size, rfl⟩ | exact ⟨_, rfl, below_size, rfl⟩
          · intro a1 w1 hf
            have E1 := EW w1 hf.below
            have HQ := Lib.hid (show RdI w1 (some ao) b5 (c5.take b5) from (RdI.below HRD.out E1).take (by omega))
            clear E1
            refine MixA.hop ⟨#[undef, undef, undef, undef, undef, undef, undef, undef, undef, undef, undef, undef, undef, undef, undef, undef, undef, undef, undef, undef, undef, undef, undef, undef, undef, undef, undef, undef, undef, undef, undef, undef, undef, undef, undef, undef, undef, undef, undef, undef, undef, undef, undef, undef, undef, undef, undef, undef, undef, undef, undef, undef, undef, undef, undef, undef, undef, undef, undef, undef, undef, undef, undef, undef, undef, undef, undef, undef, undef, undef, undef, undef, undef, undef, undef, undef, undef, undef, undef, undef, undef, undef, undef, undef, undef, undef, undef, undef, (.slice (some ao) b5 oc5), undef], []⟩ (by intro cs b e; cases e) rfl (show 89 < 90 by decide) ?_ ?_
            · intro x hx
              simp [Op.operands, Call.operands] at hx
              rcases hx with rfl | rfl
              · rfl
              · exact (hf.pure (j := 6) (by decide) rfl).trans rfl
            go_wp2_with fail
            refine (l03ReverseK_c (some ao) b5 oc5 (c5.take b5) _ (by exact HQ.out) (by omega)).mono ?_
            rintro e w2 ⟨A2, cap2, rfl, hc2, hw2, hb2⟩
            have W2 := Lib.hid hw2; have B2 := Lib.hid hb2
            clear hw2 hb2
            go_wp2_with fail
            exact ⟨B2.out, A2, cap2, rfl, hc2, W2.out⟩
          · intro a1 w1 hf
            obtain ⟨R, hR, _⟩ := hf.facts
            obtain ⟨A89, c89, hv89, hcc, h89⟩ : fOc b5 ((c5.take b5).reverse) [] (MixA.val a1 89) (R 7).1 (R 7).2 w1 := (hR 7 (by decide)).1
            have HQ := Lib.hid h89.rdI
            clear hR h89
            refine MixA.hop ⟨#[undef, undef, undef, undef, undef, undef, undef, undef, undef, undef, undef, undef, undef, undef, undef, undef, undef, undef, undef, undef, undef, undef, undef, undef, undef, undef, undef, undef, undef, undef, undef, undef, undef, undef, undef, undef, undef, undef, undef, undef, undef, undef, undef, undef, undef, undef, undef, undef, undef, undef, undef, undef, undef, undef, undef, undef, undef, undef, undef, undef, undef, undef, undef, undef, undef, undef, undef, undef, undef, undef, undef, undef, undef, undef, undef, undef, undef, undef, undef, undef, undef, undef, undef, undef, undef, undef, undef, undef, undef, (.slice A89 b5 c89), undef], []⟩ (by intro cs b e; cases e) rfl (show 90 < 91 by decide) ?_ ?_
            · intro x hx
              simp [Op.operands, Call.operands] at hx
              rcases hx with rfl | rfl
              · rfl
              · exact hv89.trans rfl
            go_wp2_with fail
            refine (l05Trim_c A89 b5 c89 _ _ (by exact HQ.out) (by omega) hcc).mono ?_
            rintro e w2 ⟨A2, m2, cap2, rfl, hm2, hl2, hw2, hb2⟩
            have W2 := Lib.hid hw2; have B2 := Lib.hid hb2; have M2 := Lib.hid hm2
            clear hw2 hb2 hm2
            go_wp2_with fail
            exact ⟨B2.out, A2, m2, cap2, rfl, M2.out, by omega, W2.out⟩
          · intro a1 w1 hf
            refine MixA.hop ⟨#[undef, undef, undef, undef, undef, (.slice (some ao) l5 oc5), undef, undef, undef, undef, undef, undef, undef, undef, undef, undef, undef, undef, undef, undef, undef, undef, undef, undef, undef, undef, undef, undef, undef, undef, undef, undef, undef, undef, undef, undef, undef, undef, undef, undef, undef, undef, undef, undef, undef, undef, undef, undef, undef, undef, undef, undef, undef, undef, undef, undef, undef, undef, undef, undef, undef, undef, undef, undef, undef, undef, undef, undef, undef, undef, undef, undef, undef, undef, undef, undef, undef, undef, undef, undef, undef, undef, undef, undef, undef, undef, undef, undef, undef, undef, undef, undef], []⟩ (by intro cs b e; cases e) rfl (show 91 < 92 by decide) ?_ ?_
            · intro x hx
              simp [Op.operands] at hx
              rcases hx with rfl
              · exact (hf.was (t := 5) (by decide) rfl).trans rfl
            go_wp2_with fail
            first | exact ⟨below_size, rfl⟩ | exact ⟨_, rfl, below_size, rfl⟩
          · intro a1 w1 hf
            refine MixA.hop ⟨#[undef, undef, undef, undef, undef, undef, (.int .i64 b5), undef, undef, undef, undef, undef, undef, undef, undef, undef, undef, undef, undef, undef, undef, undef, undef, undef, undef, undef, undef, undef, undef, undef, undef, undef, undef, undef, undef, undef, undef, undef, undef, undef, undef, undef, undef, undef, undef, undef, undef, undef, undef, undef, undef, undef, undef, undef, undef, undef, undef, undef, undef, undef, undef, undef, undef, undef, undef, undef, undef, undef, undef, undef, undef, undef, undef, undef, undef, undef, undef, undef, undef, undef, undef, undef, undef, undef, undef, undef, undef, undef, undef, undef, undef, undef, undef], []⟩ (by intro cs b e; cases e) rfl (show 92 < 93 by decide) ?_ ?_
            · intro x hx
              simp [Op.operands] at hx
              rcases hx with rfl
              · exact (hf.was (t := 6) (by decide) rfl).trans rfl
            go_wp2_with fail
            first | exact ⟨below_size, rfl⟩ | exact ⟨_, rfl, below_size, rfl⟩
          · intro a1 w1 hf
            refine MixA.hop ⟨#[undef, undef, undef, undef, undef, undef, undef, undef, undef, undef, undef, undef, undef, undef, undef, undef, undef, undef, undef, undef, undef, undef, undef, undef, undef, undef, undef, undef, undef, undef, undef, undef, undef, undef, undef, undef, undef, undef, undef, undef, undef, undef, undef, undef, undef, undef, undef, undef, undef, undef, undef, undef, undef, undef, undef, undef, undef, undef, undef, undef, undef, undef, undef, undef, undef, undef, undef, undef, undef, undef, undef, undef, undef, undef, undef, undef, undef, undef, undef, undef, undef, undef, undef, undef, undef, undef, undef, undef, undef, undef, undef, (.slice (some ao) l5 oc5), (.int .i64 b5), undef], []⟩ (by intro cs b e; cases e) rfl (show 93 < 94 by decide) ?_ ?_
            · intro x hx
              simp [Op.operands] at hx
              rcases hx with rfl | rfl
              · exact (hf.pure (j := 9) (by decide) rfl).trans rfl
              · exact (hf.pure (j := 10) (by decide) rfl).trans rfl
            go_wp2_with fail
            first | exact ⟨below_size, rfl⟩ | exact ⟨_, rfl, below_size, rfl⟩
          · intro a1 w1 hf
            have E1 := EW w1 hf.below
            have HQ := Lib.hid (show RdI w1 (some (ao.add b5)) (l5 - b5) (c5.drop b5) from (RdI.below HRD.out E1).drop (by omega))
            clear E1
            refine MixA.hop ⟨#[undef, undef, undef, undef, undef, undef, undef, undef, undef, undef, undef, undef, undef, undef, undef, undef, undef, undef, undef, undef, undef, undef, undef, undef, undef, undef, undef, undef, undef, undef, undef, undef, undef, undef, undef, undef, undef, undef, undef, undef, undef, undef, undef, undef, undef, undef, undef, undef, undef, undef, undef, undef, undef, undef, undef, undef, undef, undef, undef, undef, undef, undef, undef, undef, undef, undef, undef, undef, undef, undef, undef, undef, undef, undef, undef, undef, undef, undef, undef, undef, undef, undef, undef, undef, undef, undef, undef, undef, undef, undef, undef, undef, undef, (.slice (some (ao.add b5)) (l5 - b5) (oc5 - b5)), undef], []⟩ (by intro cs b e; cases e) rfl (show 94 < 95 by decide) ?_ ?_
            · intro x hx
              simp [Op.operands, Call.operands] at hx
              rcases hx with rfl | rfl
              · rfl
              · exact (hf.pure (j := 11) (by decide) rfl).trans rfl
            go_wp2_with fail
            refine (l05Trim_c (some (ao.add b5)) (l5 - b5) (oc5 - b5) _ _ (by exact HQ.out) (by omega) (by omega)).mono ?_
            rintro e w2 ⟨A2, m2, cap2, rfl, hm2, hl2, hw2, hb2⟩
            have W2 := Lib.hid hw2; have B2 := Lib.hid hb2; have M2 := Lib.hid hm2
            clear hw2 hb2 hm2
            go_wp2_with fail
            exact ⟨B2.out, A2, m2, cap2, rfl, M2.out, by omega, W2.out⟩
          · intro a1 w1 hf
            obtain ⟨R, hR, _⟩ := hf.facts
            have hv85 : MixA.val a1 85 = .int .i64 s := (hR 3 (by decide)).1
            obtain ⟨A90, n90, c90, hv90, _⟩ : fOt (trimL (c5.take b5).reverse) [] (MixA.val a1 90) (R 8).1 (R 8).2 w1 := (hR 8 (by decide)).1
            obtain ⟨A94, n94, c94, hv94, _⟩ : fOt (trimL (c5.drop b5)) [] (MixA.val a1 94) (R 12).1 (R 12).2 w1 := (hR 12 (by decide)).1
            clear hR
            refine MixA.hop ⟨#[undef, undef, undef, undef, undef, undef, undef, undef, undef, undef, undef, undef, undef, undef, undef, undef, undef, undef, undef, undef, undef, undef, undef, undef, undef, undef, undef, undef, undef, undef, undef, undef, undef, undef, undef, undef, undef, undef, undef, undef, undef, undef, undef, undef, undef, undef, undef, undef, undef, undef, undef, undef, undef, undef, undef, undef, undef, undef, undef, undef, undef, undef, undef, undef, undef, undef, undef, undef, undef, undef, undef, undef, undef, undef, undef, undef, undef, undef, undef, undef, undef, undef, undef, undef, undef, (.int .i64 s), undef, undef, undef, undef, (.slice A90 n90 c90), undef, undef, undef, (.slice A94 n94 c94), undef], []⟩ (by intro cs b e; cases e) rfl (show 95 < 96 by decide) ?_ ?_
            · intro x hx
              simp [Op.operands] at hx
              rcases hx with rfl | rfl | rfl
              · exact hv85.trans rfl
              · exact hv90.trans rfl
              · exact hv94.trans rfl
            go_wp2_with fail
            exact ⟨below_size, rfl⟩
          · intro a1 w1 hf
            obtain ⟨R, hR, hd⟩ := hf.facts
            have hv85 : MixA.val a1 85 = .int .i64 s := (hR 3 (by decide)).1
            obtain ⟨A90, n90, c90, hv90, hm90, hl90, h90⟩ : fOt (trimL (c5.take b5).reverse) [] (MixA.val a1 90) (R 8).1 (R 8).2 w1 := (hR 8 (by decide)).1
            obtain ⟨A94, n94, c94, hv94, hm94, hl94, h94⟩ : fOt (trimL (c5.drop b5)) [] (MixA.val a1 94) (R 12).1 (R 12).2 w1 := (hR 12 (by decide)).1
            have hv95 : MixA.val a1 95 = .agg #[MixA.val a1 85, MixA.val a1 90, MixA.val a1 94] := (hR 13 (by decide)).1
            rw [hv85, hv90, hv94] at hv95
            have b90 := (hR 8 (by decide)).2; have b94 := (hR 12 (by decide)).2
            have WS := Lib.hid ((WrS.one h90).two (lo := wc.heap.size) (hi := w1.heap.size) (WrS.one h94) (hd 8 12 (by decide) (by decide) (by decide)) ⟨b90.1, b90.2.1, b90.2.2⟩ ⟨b94.1, b94.2.1, b94.2.2⟩)
            have E1 := Lib.hid (below_of_drew hf.below)
            have Z1 := Lib.hid (HZ.out.keep E1.out)
            have r0 := Z1.out.cell 0; have r1 := Z1.out.cell 1; have r2 := Z1.out.cell 2
            have f0 := Z1.out.frozen 0; have f1 := Z1.out.frozen 1; have f2 := Z1.out.frozen 2
            simp at r0 r1 r2
            rw [hf.act]
            clear hR hd h90 h94 b90 b94 EW hm90 hm94
            simp only [List.foldl_cons, List.foldl_nil, hv85, hv90, hv94, hv95]
            clear hv85 hv90 hv94 hv95 hf
            simp only [Act.put, List.setIfInBounds_toArray, List.set_cons_succ, List.set_cons_zero]
            go_wp2_with fail
            refine bodyPost_ret (v := .agg #[i64 s, .slice A90 n90 c90, .slice A94 n94 c94]) (by simp [results, Try.results67, go_sem, r0, r1, r2]) rfl ?_
            rw [HDC.out, HD.out]
            exact CfgOut.of WS.out (by omega) hl90 hl94 HBW.out E1.out
end Go.Proofs.Ytmmgejnhfpfmnaa
