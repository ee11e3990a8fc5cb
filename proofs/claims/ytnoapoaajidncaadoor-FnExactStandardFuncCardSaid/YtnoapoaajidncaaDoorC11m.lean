/-
  Contracts of chapter 11 (recursive functions): the program's text of a function.
-/
import Derived.Test.YtnoapoaajidncaaDoorC11l
namespace Go.Proofs.YtnoapoaajidncaaDoor
open Go.RowKit
open FTr

/-- blocks that stay but one -/
structure KpB (g : Nat) (w2 wr : World) (B : Option Addr) : Prop where
  cells : ∀ b, b < w2.heap.size → b ≠ g → wr.heap[b]? = w2.heap[b]?
  size : w2.heap.size ≤ wr.heap.size
  own : ∀ ad, B = some ad → ad.block = g ∨ w2.heap.size ≤ ad.block
theorem KpB.cell {g : Nat} {w2 wr : World} {B : Option Addr} {p : Addr} {v : Value} (h : KpB g w2 wr B) (hp : p.block ≠ g) (hc : w2.cell? p = some v) : wr.cell? p = some v := by
  have hb := World.block_lt_of_cell? w2 _ hc
  rw [← hc]
  simp only [World.cell?, h.cells _ hb hp]
theorem KpB.step {g : Nat} {w2 wr w3 : World} {B B' : Option Addr} (h : KpB g w2 wr B) (hk : ∀ b, b < wr.heap.size → (∀ ad', B = some ad' → ad'.block ≠ b) → w3.heap[b]? = wr.heap[b]?) (hz : wr.heap.size ≤ w3.heap.size) (hB : B' = B ∨ ∀ ad, B' = some ad → wr.heap.size ≤ ad.block) : KpB g w2 w3 B' := by
  refine ⟨fun b hb hg => ?_, Nat.le_trans h.size hz, fun ad e => ?_⟩
  · rw [hk b (by have := h.size; omega) (fun ad e => by rcases h.own ad e with h1 | h1 <;> omega)]
    exact h.cells b hb hg
  · rcases hB with rfl | h1
    · exact h.own ad e
    · exact .inr (Nat.le_trans h.size (h1 ad e))
set_option maxHeartbeats 4000000 in
set_option maxRecDepth 100000 in
theorem funcText_c (t0 : FTr) : okT t0 = true → (flat t0).length ≤ 60 → ∀ (ad : Addr) (n cp : Nat) (w : World), Rd3 w (some ad) n (flat t0) → n ≤ cp → Tab w →
    Calls Tryd.prog 27 #[.slice (some ad) n cp] w fun e w' => e = .returned (.string (bs (textT t0))) ∧ Below w.heap.size w w' := by
  refine FTr.ind (P := fun t0 => okT t0 = true → (flat t0).length ≤ 60 → ∀ (ad : Addr) (n cp : Nat) (w : World), Rd3 w (some ad) n (flat t0) → n ≤ cp → Tab w →
    Calls Tryd.prog 27 #[.slice (some ad) n cp] w fun e w' => e = .returned (.string (bs (textT t0))) ∧ Below w.heap.size w w') (fun x ts ih ho h60 ad n cp w h hcp hT => ?_) t0
  have hL := h.len
  have hpos := flat_pos (mk x ts)
  obtain ⟨ad', x', e, hab, hx, hc0, hc1, hc2⟩ := h.at_ (k := 0) (by omega)
  injection e with e; subst e
  rw [Nat.zero_mul, addrZf] at hc0 hc1 hc2
  rw [flat_mk, List.getElem?_cons_zero] at hx
  injection hx with hx; subst hx
  have hO := okT_iff.1 ho
  obtain ⟨m, hm⟩ : ∃ m, ts.length = m := ⟨_, rfl⟩
  have hm5 : m ≤ 5 := by rw [← hm, ← List.length_map (f := ar), hO.ars]; exact manyF_le x hO.node
  have X := Lib.hid (show ∀ i, ((w.alloc (.cells #[] 9)).alloc (.cells #[i64 x.1, i64 x.2.1, i64 x.2.2] 37)).cell? ⟨w.heap.size + 1, i, none⟩ = (#[i64 x.1, i64 x.2.1, i64 x.2.2] : Array Value)[i]? from fun i => by
    have := new_cell (w.alloc (.cells #[] 9)) #[i64 x.1, i64 x.2.1, i64 x.2.2] 37 i
    rw [World.size_alloc] at this; exact this)
  have BW := Lib.hid (show Below w.heap.size w ((w.alloc (.cells #[] 9)).alloc (.cells #[i64 x.1, i64 x.2.1, i64 x.2.2] 37)) from (below_size.alloc (Nat.le_refl _) _).alloc (by simp) _)
  have OW := Lib.hid (show Own ((w.alloc (.cells #[] 9)).alloc (.cells #[i64 x.1, i64 x.2.1, i64 x.2.2] 37)) w.heap.size 9 1 (some ⟨w.heap.size, 0, none⟩) 0 0 [] from (Own.lit (Nat.le_refl _)).alloc _)
  have HPA := Lib.hid (show ∀ ki : Int, ki = 0 → Calls Tryd.prog 41 #[.slice (some ad) n cp, .int .i64 ki] ((w.alloc (.cells #[] 9)).alloc (.cells #[i64 x.1, i64 x.2.1, i64 x.2.2] 37)) fun e w' => ∃ A c, e = .returned (.slice A m c) ∧ Own w' ((w.alloc (.cells #[] 9)).alloc (.cells #[i64 x.1, i64 x.2.1, i64 x.2.2] 37)).heap.size 22 1 A m c (ptVs ad cp 1 ts) ∧ Below ((w.alloc (.cells #[] 9)).alloc (.cells #[i64 x.1, i64 x.2.1, i64 x.2.2] 37)).heap.size ((w.alloc (.cells #[] 9)).alloc (.cells #[i64 x.1, i64 x.2.1, i64 x.2.2] 37)) w' from fun ki hk => by
    subst hk
    exact partsAt_c ad n cp (flat (mk x ts)) 0 x ts [] m _ (by exact (Rd.alloc h _).alloc _) (by omega) hcp (by rw [List.drop_zero, List.append_nil]) ho hm)
  have HI := Lib.hid (show ∀ t ∈ ts, ∀ (ad : Addr) (cp : Nat) (w : World), Rd3 w (some ad) (flat t).length (flat t) → (flat t).length ≤ cp → Tab w → Calls Tryd.prog 27 #[.slice (some ad) (flat t).length cp] w fun e w' => e = .returned (.string (bs (textT t))) ∧ Below w.heap.size w w' from
    fun t ht ad cp w h1 h2 h3 => ih t ht (hO.kids t ht) (by have := flats_mem ht; rw [flat_mk, List.length_cons] at h60; omega) ad _ cp w h1 h2 h3)
  have HLE := Lib.hid (show ∀ v ∈ ts, (bs (textT v)).size ≤ 359 from fun v hv => by
    have h1 := flats_mem hv
    rw [flat_mk, List.length_cons] at h60
    have h2 := textT_len v (hO.kids v hv)
    rw [bs_size]; omega)
  have H := Lib.hid h; have HT := Lib.hid hT; have HTS := Lib.hid hm; have HK := Lib.hid hO.kind
  rw [textT_mk]
  clear h hT ih hO ho
  go_enter Tryd.func27, Tryd.ntmps27
  go_wp2_with (first | (go_at_call 41; refine (HPA.out _ (by omega)).mono ?_; rintro e w2 ⟨A2, c2, rfl, hA2, hb2⟩; have PA := Lib.hid hA2.wr; have B2 := Lib.hid (BW.out.trans (hb2.mono BW.out.size)); have O2 := Lib.hid (Own.keep OW.out hb2); obtain ⟨y0, y1, y2⟩ : w2.cell? ⟨w.heap.size + 1, 0, none⟩ = some (i64 x.1) ∧ w2.cell? ⟨w.heap.size + 1, 1, none⟩ = some (i64 x.2.1) ∧ w2.cell? ⟨w.heap.size + 1, 2, none⟩ = some (i64 x.2.2) := ⟨keepc hb2 (X.out 0), keepc hb2 (X.out 1), keepc hb2 (X.out 2)⟩; clear hA2 hb2))
  go_loopw [4, 14] (fun ov jv wr => ∃ (i : Nat) (B : Option Addr) (cc : Nat), i ≤ m ∧ ov = .slice B i cc ∧ jv = .int .i64 i ∧ Hid (Own wr w.heap.size 9 1 B i cc (txV (ts.take i))) ∧ KpB w.heap.size w2 wr B ∧ Below w.heap.size w wr) (fun _ jv _ => m - (intOf jv).toNat)
  case atStart => exact ⟨0, some ⟨w.heap.size, 0, none⟩, 0, by omega, rfl, rfl, O2.out, ⟨fun _ _ _ => rfl, Nat.le_refl _, fun ad e => by injection e with e; subst e; exact .inl rfl⟩, B2.out⟩
  case round =>
    obtain ⟨i, B, cc, hi, rfl, rfl, hO, hkp, hb⟩ := hrel
    have HB := Lib.hid hb; have HKP := Lib.hid hkp
    have hwz := hb.size
    have z2 := B2.out.size
    by_cases hlt : i < m
    · obtain ⟨t, ht⟩ : ∃ t, ts[i]? = some t := ⟨_, List.getElem?_eq_getElem (by rw [HTS.out]; exact hlt)⟩
      obtain ⟨pd, v0, rfl, hq1, hq2, hq3, hv, hcv, _⟩ := PA.out.at_ (k := i) (by omega)
      have hne : (pd.add i).block ≠ w.heap.size := by rw [block_add]; simp only [World.size_alloc] at hq1; omega
      rw [ptVs_at ht] at hv
      injection hv with hv
      obtain ⟨p, hp⟩ : ∃ p, 1 + (flats (ts.take i)).length = p := ⟨_, rfl⟩
      obtain ⟨l, hl⟩ : ∃ l, (flat t).length = l := ⟨_, rfl⟩
      obtain ⟨r', hr'⟩ := part_at (f := flat (mk x ts)) (k := 0) (r := []) (by rw [List.drop_zero, List.append_nil]) ht
      rw [Nat.zero_add, hp] at hr'
      have hlr := congrArg List.length hr'
      rw [List.length_drop, List.length_append, hL, hl] at hlr
      have htp := flat_pos t
      rw [hl] at htp
      have hcv' := hkp.cell hne hcv
      rw [← hv, ptV, hp, hl] at hcv'
      have HS := Lib.hid (show ∀ w', Below w.heap.size w w' → Calls Tryd.prog 27 #[.slice (some (ad.add (p * 3))) l (cp - p)] w' fun e w'' => e = .returned (.string (bs (textT t))) ∧ Below w'.heap.size w' w'' from fun w' hb' => by
        have h1 := (Rd3.below H.out hb').part p l (by omega)
        rw [hr', List.take_left' hl] at h1
        have := HI.out t (List.mem_of_getElem? ht) (ad.add (p * 3)) (cp - p) w' (by rw [hl]; exact h1) (by omega) (HT.out.below hb')
        rw [hl] at this; exact this)
      have HX := Lib.hid (show txV (ts.take (i + 1)) = txV (ts.take i) ++ [.string (bs (textT t))] by rw [take_at ht, txV, List.map_append]; rfl)
      have BR := Lib.hid hb
      clear ht hv hr' hl hcv hb hkp hp hne hq1 hq2 hq3
      go_wp2_with (first | (go_at_call 27; refine (HS.out _ BR.out).mono ?_; rintro e w4 ⟨rfl, hb4⟩; have E4 := Lib.hid (HB.out.trans (hb4.mono hwz)); have O4 := Lib.hid (hO.out.keep hb4); have z4 := E4.out.size; have K4 := Lib.hid (KpB.step (B' := B) (KpB.step (B' := B) HKP.out (fun b hb _ => hb4.block b hb) hb4.size (.inl rfl)) (fun b hb _ => (below_size.alloc (Nat.le_refl _) (.cells #[.string (bs (textT t))] 9)).block b hb) (by simp) (.inl rfl)); clear hb4) | (at_builtin; refine wp_app1 (by rfl) _ _ 48 9 (.string ⟨#[]⟩) 16 (by rfl) Tryd.underlying48 info_str rfl w.heap.size B i cc _ (by rfl) (by exact O4.out.alloc _) w4.heap.size (.string (bs (textT t))) (by rfl) (by exact new_cell _ _ _ 0) rfl (by omega) (by omega) (by simp; omega) ?_; intro g' cap w3 own3 hb3 hk3 hg3 hz3; have K3 := Lib.hid (KpB.step (B' := some ⟨g', 0, none⟩) K4.out hk3 hz3 (hg3.elim (fun e => .inl e.symm) (fun e => .inr fun ad h => by injection h with h; subst h; exact Nat.le_of_eq e.symm))); have O3 := Lib.hid own3; have E3 := Lib.hid ((E4.out.alloc z4 _).trans hb3); clear own3 hb3 hk3 hg3 hz3))
      go_roundw
      case rel => exact ⟨i + 1, some ⟨g', 0, none⟩, cap, by omega, rfl, by go_num, by unfold Hid; rw [HX.out]; exact O3.out, K3.out, E3.out⟩
      case measure => simp [intOf]; omega
    · obtain rfl : i = m := by omega
      have HTK := Lib.hid (show ts.take i = ts from List.take_of_length_le (by rw [HTS.out]; exact Nat.le_refl _))
      have hO := hO.out
      rw [HTK.out] at hO
      have hcap := hO.cap
      have O := Lib.hid hO
      have TR := Lib.hid (HT.out.below hb)
      have hne : (w.heap.size + 1) ≠ w.heap.size := by omega
      have q0 : wr.cell? ⟨w.heap.size + 1, 0, none⟩ = some (i64 x.1) := hkp.cell hne y0
      have q1 : wr.cell? ⟨w.heap.size + 1, 1, none⟩ = some (i64 x.2.1) := hkp.cell hne y1
      have q2 : wr.cell? ⟨w.heap.size + 1, 2, none⟩ = some (i64 x.2.2) := hkp.cell hne y2
      have HKI := HK.out
      have HL := Lib.hid (show ∀ v ∈ ts, (bs (textT v)).size ≤ 359 from fun v hv => HLE.out v hv)
      clear hb hkp hO HKP HI HPA PA O2 B2 HTK y0 y1 y2 hm hi
      obtain ⟨kk, a, ii⟩ := x
      simp only at q0 q1 q2
      cases HKI with
      | zero h0 ha hi ht =>
        simp only at h0 ha hi
        subst h0 hi ht
        have HX := Lib.hid (show (⟨#[90]⟩ : ByteArray) ++ bs (Lib.itoa a) = bs (shapeX (0, a, 0) (([] : List FTr).map textT)) by rw [shape_zero rfl, bs1, bs_add]; rfl)
        have la : (bs (Lib.itoa a)).size ≤ 30 := by rw [bs_size]; have := itoa_len (x := a) (by omega); omega
        go_wp2_with (first | (go_at_call 42; refine (Decimal_c a _ (by omega) (by omega) TR.out).mono ?_; rintro e w3 ⟨rfl, hb3⟩; have E3 := Lib.hid (HB.out.trans (hb3.mono hwz)); clear hb3))
        go_ret
        exact ⟨congrArg (fun z => Ending.returned (.string z)) HX.out, E3.out⟩
      | next h0 ha hi ht =>
        simp only at h0 ha hi
        subst h0 ha hi ht
        go_wp2_with fail
        go_ret
        exact ⟨by rw [shape_next rfl]; rfl, HB.out⟩
      | pick h0 ha hi ht =>
        simp only at h0 ha hi
        subst h0 ht
        have HX := Lib.hid (show (⟨#[80]⟩ : ByteArray) ++ bs (Lib.itoa a) ++ ⟨#[46]⟩ ++ bs (Lib.itoa ii) = bs (shapeX (2, a, ii) (([] : List FTr).map textT)) by rw [shape_pick rfl, bs1, bs1]; simp only [bs_add]; congr 1; simp)
        have la : (bs (Lib.itoa a)).size ≤ 30 := by rw [bs_size]; have := itoa_len (x := a) (by omega); omega
        have li : (bs (Lib.itoa ii)).size ≤ 30 := by rw [bs_size]; have := itoa_len (x := ii) (by omega); omega
        go_wp2_with fail
        have x0 := Ext.cell q0; have x1 := Ext.cell q1; have x2 := Ext.cell q2
        refine Mix.wp_region_mix [0, 3, 1, 0, 0, 0, 3, 1, 0, 0] (fun w' => ∃ x : Ext wr, w' = x.w) (by kernel_rfl) (by kernel_rfl) (InExt.drew _) ?_
        repeat (first | (refine Mix.wpMix_read (by rfl) ?_; go_big_quiet_step (fail); refine wpQuiet_nil ?_) | (refine Mix.wpMix_pure (by rfl) ?_; go_big_quiet_step (fail); refine wpQuiet_nil ?_))
        refine Mix.wpMix_chg (by rfl) (fun K hK => ?_)
        go_wp2_with fail
        refine (Decimal_c a _ (by omega) (by omega) (by exact TR.out.drew)).mono ?_
        rintro e w3 ⟨rfl, hb3⟩
        have E3 := Lib.hid (show Below wr.heap.size wr w3 from below_of_drew hb3)
        clear hb3
        go_wp2_with fail
        refine hK _ _ ⟨⟨_, E3.out⟩, rfl⟩ ?_
        clear hK K
        repeat (first | (refine Mix.wpMix_read (by rfl) ?_; go_big_quiet_step (fail); refine wpQuiet_nil ?_) | (refine Mix.wpMix_pure (by rfl) ?_; go_big_quiet_step (fail); refine wpQuiet_nil ?_))
        refine Mix.wpMix_chg (by rfl) (fun K hK => ?_)
        go_wp2_with fail
        refine (Decimal_c ii _ (by omega) (by omega) (by exact TR.out.below E3.out)).mono ?_
        rintro e w4 ⟨rfl, hb4⟩
        have E4 := Lib.hid (below_chain E3.out E3.out.size hb4)
        clear hb4
        go_wp2_with fail
        refine hK _ _ ⟨⟨_, E4.out⟩, rfl⟩ ?_
        clear hK K
        repeat (first | (refine Mix.wpMix_read (by rfl) ?_; go_big_quiet_step (fail); refine wpQuiet_nil ?_) | (refine Mix.wpMix_pure (by rfl) ?_; go_big_quiet_step (fail); refine wpQuiet_nil ?_))
        (refine Mix.wpMix_nil ?_; try simp only [Exit.then])
        go_wp2_with fail
        go_ret
        exact ⟨congrArg (fun z => Ending.returned (.string z)) HX.out, below_chain HB.out HB.out.size E4.out⟩
      | rep h0 ha hi t u ht h1 h2 =>
        simp only at h0 ha hi
        subst h0 ht hi
        have HX := Lib.hid (show (⟨#[82, 40]⟩ : ByteArray) ++ bs (textT t) ++ ⟨#[59]⟩ ++ bs (textT u) ++ ⟨#[41]⟩ = bs (shapeX (4, a, 0) ([t, u].map textT)) by rw [shape_rep rfl, bs2, bs1, bs1]; simp only [bs_add]; congr 1; simp)
        have la : (bs (textT t)).size ≤ 359 := HL.out t (by simp)
        have li : (bs (textT u)).size ≤ 359 := HL.out u (by simp)
        have hm2 : i = 2 := HTS.out.symm
        obtain ⟨pd, v0, rfl, _, _, _, hv0, hc0, _⟩ := O.out.wr.at_ (k := 0) (by omega)
        obtain ⟨pd', v1, e1, _, _, _, hv1, hc1, _⟩ := O.out.wr.at_ (k := 1) (by omega)
        injection e1 with e1; subst e1
        obtain rfl : Value.string (bs (textT t)) = v0 := by simpa [txV] using hv0
        obtain rfl : Value.string (bs (textT u)) = v1 := by simpa [txV] using hv1
        rw [addrZf] at hc0
        have hc1' : wr.cell? ⟨pd.block, pd.off + 1, none⟩ = some (.string (bs (textT u))) := hc1
        have h2i : 2 ≤ i := by omega
        have HM2 := Lib.hid hm2
        clear hm2 hv0 hv1 hlt
        go_wp2_with fail
        go_quiet (fail)
        go_wp2_with fail
        go_ret
        exact ⟨congrArg (fun z => Ending.returned (.string z)) HX.out, below_drewN HB.out _⟩
      | least h0 ha hi t ht h1 =>
        simp only at h0 ha hi
        subst h0 ht hi
        have HX := Lib.hid (show (⟨#[77, 40]⟩ : ByteArray) ++ bs (textT t) ++ ⟨#[41]⟩ = bs (shapeX (5, a, 0) ([t].map textT)) by rw [shape_least rfl, bs2, bs1]; simp only [bs_add]; congr 1)
        have la : (bs (textT t)).size ≤ 359 := HL.out t (by simp)
        have hm2 : i = 1 := HTS.out.symm
        obtain ⟨pd, v0, rfl, _, _, _, hv0, hc0, _⟩ := O.out.wr.at_ (k := 0) (by omega)
        obtain rfl : Value.string (bs (textT t)) = v0 := by simpa [txV] using hv0
        rw [addrZf] at hc0
        have h1i : 1 ≤ i := by omega
        have HM2 := Lib.hid hm2
        clear hm2 hv0 hlt
        go_wp2_with fail
        go_ret
        exact ⟨congrArg (fun z => Ending.returned (.string z)) HX.out, HB.out⟩
      | comp h0 ha hi t u us0 ht h1 hl hu =>
        simp only at h0 ha hi h1 hl hu
        obtain ⟨us, hus⟩ : ∃ us, us = u :: us0 := ⟨_, rfl⟩
        have hul : (us.length : Int) = ii := by rw [hus, List.length_cons]; omega
        rw [← hus] at ht
        subst h0 ht
        clear h1 hl hu hus
        have hm5 : us.length + 1 = i := by rw [← HTS.out, List.length_cons]
        have hil : us.length ≤ 4 := by omega
        have la : (bs (textT t)).size ≤ 359 := HL.out t (by simp)
        have hJ := join44_len (b := 359) (L := us.map textT) (fun y hy => by
          obtain ⟨v, hv, rfl⟩ := List.mem_map.1 hy
          have := HL.out v (List.mem_cons_of_mem _ hv)
          rw [bs_size] at this; exact this)
        rw [List.length_map] at hJ
        have lj : (bs (Lib.join (us.map textT) [44])).size ≤ 1440 := by rw [bs_size]; omega
        have HX := Lib.hid (show (⟨#[67, 40]⟩ : ByteArray) ++ bs (textT t) ++ ⟨#[59]⟩ ++ bs (Lib.join (us.map textT) [44]) ++ ⟨#[41]⟩ = bs (shapeX (3, a, ii) ((t :: us).map textT)) by
          rw [shape_comp rfl, bs2, bs1, bs1]
          simp only [List.map_cons, List.getD_cons_zero, List.drop_succ_cons, List.drop_zero, bs_add]; congr 1; simp)
        obtain ⟨pd, v0, rfl, hp1, hp2, _, hv0, hc0, _⟩ := O.out.wr.at_ (k := 0) (by omega)
        obtain rfl : Value.string (bs (textT t)) = v0 := by simpa [txV] using hv0
        rw [addrZf] at hc0
        obtain ⟨g, rfl⟩ : ∃ g, pd = ⟨g, 0, none⟩ := ⟨_, (O.out.block rfl).2.2.1⟩
        have HJ := Lib.hid (show ∀ w', Below wr.heap.size wr w' → Calls Tryd.prog 43 #[.slice (some ⟨g, 1, none⟩) (i - 1) (cc - 1), .string (bs [44])] w' fun e w'' => e = .returned (.string (bs (Lib.join (us.map textT) [44]))) ∧ Below w'.heap.size w' w'' from fun w' hb' => by
          refine JoinX_c g 1 (cc - 1) (i - 1) (us.map textT) [44] w' (fun j l hl => ?_) (Nat.lt_of_lt_of_le hp2 hb'.size) (by rw [List.length_map]; omega) (by omega) (by omega) (by omega)
          rw [List.getElem?_map] at hl
          cases hu : us[j]? with
          | none => rw [hu] at hl; cases hl
          | some v =>
            rw [hu] at hl; injection hl with hl; subst hl
            have hjl := (List.getElem?_eq_some_iff.1 hu).1
            obtain ⟨pd', v1, e1, _, _, _, hv1, hc1, _⟩ := O.out.wr.at_ (k := 1 + j) (by omega)
            injection e1 with e1; subst e1
            rw [head_add] at hc1
            rw [txV, List.getElem?_map, Nat.add_comm 1 j, List.getElem?_cons_succ, hu] at hv1
            injection hv1 with hv1
            rw [keepc hb' hc1, ← hv1])
        have hcc : 2 ≤ cc := by omega
        clear hv0 hJ hul
        have x0 := Ext.cell q0; have x1 := Ext.cell hc0
        go_wp2_with fail
        refine Mix.wp_region_mix [0, 0, 3, 0, 0, 0, 0, 1, 0, 0, 0] (fun w' => ∃ x : Ext wr, w' = x.w) (by kernel_rfl) (by kernel_rfl) (InExt.drew _) ?_
        repeat (first | (refine Mix.wpMix_read (by rfl) ?_; go_big_quiet_step (fail); refine wpQuiet_nil ?_) | (refine Mix.wpMix_pure (by rfl) ?_; go_big_quiet_step (fail); refine wpQuiet_nil ?_))
        refine Mix.wpMix_chg (by rfl) (fun K hK => ?_)
        go_wp2_with fail
        refine (HJ.out _ (by exact below_drew below_size)).mono ?_
        rintro e w3 ⟨rfl, hb3⟩
        have E3 := Lib.hid (show Below wr.heap.size wr w3 from below_of_drew hb3)
        clear hb3
        go_wp2_with fail
        refine hK _ _ ⟨⟨_, E3.out⟩, rfl⟩ ?_
        clear hK K
        repeat (first | (refine Mix.wpMix_read (by rfl) ?_; go_big_quiet_step (fail); refine wpQuiet_nil ?_) | (refine Mix.wpMix_pure (by rfl) ?_; go_big_quiet_step (fail); refine wpQuiet_nil ?_))
        (refine Mix.wpMix_nil ?_; try simp only [Exit.then])
        go_wp2_with fail
        go_ret
        exact ⟨congrArg (fun z => Ending.returned (.string z)) HX.out, below_chain HB.out HB.out.size E3.out⟩
set_option maxHeartbeats 1000000 in
set_option maxRecDepth 100000 in
theorem FuncText_c (A : Option Addr) (n cp : Nat) (f : List Nd3) (w : World) (h : Rd3 w A n f) (hn : n ≤ 1000000000) (hnc : n ≤ cp) (hT : Tab w) :
    Calls Tryd.prog 14 #[.slice A n cp] w fun e w' => e = .returned (.string (bs (txF f))) ∧ Below w.heap.size w w' := by
  obtain ⟨q, hq⟩ : ∃ q, validF f = q := ⟨_, rfl⟩
  have HQ := Lib.hid hq
  have H := Lib.hid h
  have HL := Lib.hid h.len
  have HT := Lib.hid hT
  cases q
  · have HX := Lib.hid (show txF f = [] from txF_bad hq)
    clear hq h hT
    go_enter Tryd.func14, Tryd.ntmps14
    go_wp2_with (go_at_call 26; refine (validFunc_c A n cp f false w H.out hn HQ.out).mono ?_; rintro e w1 ⟨rfl, hb1⟩)
    go_ret
    rw [HX.out]
    exact ⟨rfl, hb1⟩
  · obtain ⟨h60, t, hok, rfl⟩ := validF_iff.1 hq
    have HX := Lib.hid (show txF (flat t) = textT t from txF_flat hok h60)
    have hp := flat_pos t
    obtain ⟨ad, rfl, _⟩ := h.2 (by rw [h.len] at hp; omega)
    have HO := Lib.hid hok; have H60 := Lib.hid h60
    clear hq h hT hok h60 hp
    rw [HX.out]
    go_enter Tryd.func14, Tryd.ntmps14
    go_wp2_with (first | (go_at_call 26; refine (validFunc_c _ n cp _ true w H.out hn HQ.out).mono ?_; rintro e w1 ⟨rfl, hb1⟩) | (go_at_call 27; refine (funcText_c t HO.out H60.out ad n cp w1 (H.out.below hb1) hnc (HT.out.below hb1)).mono ?_; rintro e w2 ⟨rfl, hb2⟩))
    go_ret
    exact ⟨rfl, below_chain hb1 hb1.size hb2⟩
end Go.Proofs.YtnoapoaajidncaaDoor
