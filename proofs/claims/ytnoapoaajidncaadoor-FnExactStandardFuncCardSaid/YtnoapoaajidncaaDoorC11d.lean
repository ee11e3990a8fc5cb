/-
  Contracts of chapter 11 (recursive functions): the reference's text of a function.
-/
import Derived.Test.YtnoapoaajidncaaDoorC11c
import Derived.BigQuiet
namespace Go.Proofs.YtnoapoaajidncaaDoor
open Go.RowKit
open FTr

theorem join44_len {b : Nat} : ∀ {L : List (List UInt8)}, (∀ y ∈ L, y.length ≤ b) → (Lib.join L [44]).length ≤ L.length * (b + 1)
  | [], _ => by simp [Lib.join]
  | y :: L, h => by
    have h1 := h y (by simp)
    have h2 := join44_len fun z hz => h z (List.mem_cons_of_mem _ hz)
    rw [join_cons44, List.length_append, List.length_cons, Nat.succ_mul]
    split
    · simp; omega
    · rw [List.length_cons]; omega
theorem part_pl {w : World} {ad : Addr} {n k i : Nat} {f : List Nd3} {x : Nd3} {ts : List FTr} {t : FTr} {r : List Nd3} (h : Rd3 w (some ad) n f) (hf : f.drop k = flat (mk x ts) ++ r) (ht : ts[i]? = some t) :
    ∃ (p : Nat) (r' : List Nd3), p < n ∧ (plT (k + 1) ts)[i]? = some p ∧ f.drop p = flat t ++ r' := by
  obtain ⟨r', hr'⟩ := part_at hf ht
  have hl := h.len
  have hp : k + 1 + (flats (ts.take i)).length < n := by
    have := congrArg List.length hr'
    rw [List.length_drop, List.length_append, hl] at this
    have := flat_pos t
    omega
  exact ⟨_, r', hp, plT_at ht, hr'⟩
theorem bs1 (a : UInt8) : (⟨#[a]⟩ : ByteArray) = bs [a] := rfl
theorem bs2 (a b : UInt8) : (⟨#[a, b]⟩ : ByteArray) = bs [a, b] := rfl
set_option maxHeartbeats 4000000 in
set_option maxRecDepth 100000 in
theorem l11Show_c (ad : Addr) (n cp : Nat) (f : List Nd3) (hn : n ≤ 1000000000) (t0 : FTr) : okT t0 = true → (flat t0).length ≤ 60 → ∀ (k : Nat) (r : List Nd3) (w : World), Rd3 w (some ad) n f → f.drop k = flat t0 ++ r →
    Calls Tryd.prog 20 #[.slice (some ad) n cp, .int .i64 k] w fun e w' => e = .returned (.string (bs (textT t0))) ∧ Below w.heap.size w w' := by
  refine FTr.ind (P := fun t0 => okT t0 = true → (flat t0).length ≤ 60 → ∀ (k : Nat) (r : List Nd3) (w : World), Rd3 w (some ad) n f → f.drop k = flat t0 ++ r →
    Calls Tryd.prog 20 #[.slice (some ad) n cp, .int .i64 k] w fun e w' => e = .returned (.string (bs (textT t0))) ∧ Below w.heap.size w w') (fun x ts ih ho h60 k r w h hf => ?_) t0
  have hL := h.len
  have hkl := congrArg List.length hf
  rw [List.length_drop, List.length_append, hL, flat_mk, List.length_cons] at hkl
  have hroot : f[k]? = some x := root_at hf
  have hkn : k < n := by omega
  obtain ⟨ad', x', e, hab, hx, hc0, hc1, hc2⟩ := h.at_ hkn
  injection e with e; subst e
  rw [hroot] at hx
  injection hx with hx; subst hx
  have hO := okT_iff.1 ho
  have hlen := textT_len _ ho
  have hkid : ∀ u ∈ ts, (flat u).length ≤ 60 ∧ (textT u).length ≤ 359 := fun u hu => by
    have h1 := flats_mem hu
    rw [flat_mk, List.length_cons] at h60
    have h2 := textT_len u (hO.kids u hu)
    omega
  have HI := Lib.hid (show ∀ u ∈ ts, ∀ (k : Nat) (r : List Nd3) (w : World), Rd3 w (some ad) n f → f.drop k = flat u ++ r → Calls Tryd.prog 20 #[.slice (some ad) n cp, .int .i64 k] w fun e w' => e = .returned (.string (bs (textT u))) ∧ Below w.heap.size w w' from
    fun u hu k r w h hf => ih u hu (hO.kids u hu) (hkid u hu).1 k r w h hf)
  have HK := Lib.hid hkid
  have HF := Lib.hid hf; have HOS := Lib.hid (okT_okS _ ho); have H := Lib.hid h
  have hkind := hO.kind
  rw [textT_mk]
  clear h hf ho hroot hkl ih hkid hL hlen h60 hO
  obtain ⟨kk, a, i⟩ := x
  simp only at hc0 hc1 hc2
  have K0 := Lib.hid (show ∀ (w2 : World), Below (w.alloc (.cells #[.int .i64 kk, .int .i64 a, .int .i64 i] 37)).heap.size (w.alloc (.cells #[.int .i64 kk, .int .i64 a, .int .i64 i] 37)) w2 → w2.cell? ⟨w.heap.size, 0, none⟩ = some (i64 kk) ∧ w2.cell? ⟨w.heap.size, 1, none⟩ = some (i64 a) ∧ w2.cell? ⟨w.heap.size, 2, none⟩ = some (i64 i) from fun w2 hb => ⟨keepc hb (new_cell _ _ _ 0), keepc hb (new_cell _ _ _ 1), keepc hb (new_cell _ _ _ 2)⟩)
  cases hkind with
  | zero h0 ha hi ht =>
    simp only at h0 ha hi
    subst h0 hi ht
    have HLN := Lib.hid (show ([] : List FTr).length = 0 from rfl)
    have HX := Lib.hid (show (⟨#[90]⟩ : ByteArray) ++ bs (Lib.itoa a) = bs (shapeX (0, a, 0) (([] : List FTr).map textT)) by rw [shape_zero rfl, bs1, bs_add]; rfl)
    have la : (bs (Lib.itoa a)).size ≤ 30 := by rw [bs_size]; have := itoa_len (x := a) (by omega); omega
    go_enter Tryd.func20, Tryd.ntmps20
    go_wp2_with (first | (go_at_call 33; refine (l11Parts_c (some ad) n cp f k _ _ r _ (H.out.alloc _) hn HF.out HOS.out _ HLN.out).mono ?_; rintro e w2 ⟨A2, c2, rfl, hA2, hb2⟩; have RA := Lib.hid hA2; obtain ⟨y0, y1, y2⟩ := K0.out _ hb2; have BB := Lib.hid ((below_size.alloc (Nat.le_refl _) _).trans (hb2.mono (by simp))); have RD := Lib.hid ((H.out.alloc _).below hb2); clear hA2 hb2) | (go_at_call 34; refine (l01Dec_c a _ (by omega) (by omega)).mono ?_; rintro e w3 ⟨rfl, hb3⟩; have E3 := Lib.hid (below_chain BB.out BB.out.size hb3); clear hb3))
    go_ret
    exact ⟨by rw [← HX.out]; rfl, E3.out⟩
  | next h0 ha hi ht =>
    simp only at h0 ha hi
    subst h0 ha hi ht
    have HLN := Lib.hid (show ([] : List FTr).length = 0 from rfl)
    go_enter Tryd.func20, Tryd.ntmps20
    go_wp2_with (first | (go_at_call 33; refine (l11Parts_c (some ad) n cp f k _ _ r _ (H.out.alloc _) hn HF.out HOS.out _ HLN.out).mono ?_; rintro e w2 ⟨A2, c2, rfl, hA2, hb2⟩; have RA := Lib.hid hA2; obtain ⟨y0, y1, y2⟩ := K0.out _ hb2; have BB := Lib.hid ((below_size.alloc (Nat.le_refl _) _).trans (hb2.mono (by simp))); have RD := Lib.hid ((H.out.alloc _).below hb2); clear hA2 hb2) | (go_at_call 34; refine (l01Dec_c a _ (by omega) (by omega)).mono ?_; rintro e w3 ⟨rfl, hb3⟩; have E3 := Lib.hid (below_chain BB.out BB.out.size hb3); clear hb3))
    go_ret
    exact ⟨by rw [shape_next rfl]; rfl, BB.out⟩
  | pick h0 ha hi ht =>
    simp only at h0 ha hi
    subst h0 ht
    have HLN := Lib.hid (show ([] : List FTr).length = 0 from rfl)
    have HX := Lib.hid (show (⟨#[80]⟩ : ByteArray) ++ bs (Lib.itoa a) ++ ⟨#[46]⟩ ++ bs (Lib.itoa i) = bs (shapeX (2, a, i) (([] : List FTr).map textT)) by rw [shape_pick rfl, bs1, bs1]; simp only [bs_add]; congr 1; simp)
    have la : (bs (Lib.itoa a)).size ≤ 30 := by rw [bs_size]; have := itoa_len (x := a) (by omega); omega
    have li : (bs (Lib.itoa i)).size ≤ 30 := by rw [bs_size]; have := itoa_len (x := i) (by omega); omega
    go_enter Tryd.func20, Tryd.ntmps20
    go_wp2_with (first | (go_at_call 33; refine (l11Parts_c (some ad) n cp f k _ _ r _ (H.out.alloc _) hn HF.out HOS.out _ HLN.out).mono ?_; rintro e w2 ⟨A2, c2, rfl, hA2, hb2⟩; have RA := Lib.hid hA2; obtain ⟨y0, y1, y2⟩ := K0.out _ hb2; have BB := Lib.hid ((below_size.alloc (Nat.le_refl _) _).trans (hb2.mono (by simp))); have RD := Lib.hid ((H.out.alloc _).below hb2); clear hA2 hb2) | (go_at_call 34; refine (l01Dec_c a _ (by omega) (by omega)).mono ?_; rintro e w3 ⟨rfl, hb3⟩; have E3 := Lib.hid (below_chain BB.out BB.out.size hb3); clear hb3))
    have x0 := Ext.cell y0; have x1 := Ext.cell y1; have x2 := Ext.cell y2
    refine Mix.wp_region_mix [0, 3, 1, 0, 0, 0, 3, 1, 0, 0] (fun w' => ∃ x : Ext w2, w' = x.w) (by kernel_rfl) (by kernel_rfl) (InExt.drew _) ?_
    repeat (first | (refine Mix.wpMix_read (by rfl) ?_; go_big_quiet_step (fail); refine wpQuiet_nil ?_) | (refine Mix.wpMix_pure (by rfl) ?_; go_big_quiet_step (fail); refine wpQuiet_nil ?_))
    refine Mix.wpMix_chg (by rfl) (fun K hK => ?_)
    go_wp2_with fail
    refine (l01Dec_c a _ (by omega) (by omega)).mono ?_
    rintro e w3 ⟨rfl, hb3⟩
    have E3 := Lib.hid (show Below w2.heap.size w2 w3 from below_of_drew hb3)
    clear hb3
    go_wp2_with fail
    refine hK _ _ ⟨⟨_, E3.out⟩, rfl⟩ ?_
    clear hK K
    repeat (first | (refine Mix.wpMix_read (by rfl) ?_; go_big_quiet_step (fail); refine wpQuiet_nil ?_) | (refine Mix.wpMix_pure (by rfl) ?_; go_big_quiet_step (fail); refine wpQuiet_nil ?_))
    refine Mix.wpMix_chg (by rfl) (fun K hK => ?_)
    go_wp2_with fail
    refine (l01Dec_c i _ (by omega) (by omega)).mono ?_
    rintro e w4 ⟨rfl, hb4⟩
    have E4 := Lib.hid (below_chain E3.out E3.out.size hb4)
    clear hb4
    go_wp2_with fail
    refine hK _ _ ⟨⟨_, E4.out⟩, rfl⟩ ?_
    clear hK K
    repeat (first | (refine Mix.wpMix_read (by rfl) ?_; go_big_quiet_step (fail); refine wpQuiet_nil ?_) | (refine Mix.wpMix_pure (by rfl) ?_; go_big_quiet_step (fail); refine wpQuiet_nil ?_))
    (refine Mix.wpMix_nil ?_; try simp only [Exit.then])
    go_wp2_with fail
    go_ret
    exact ⟨by rw [← HX.out]; rfl, below_chain BB.out BB.out.size E4.out⟩
  | rep h0 ha hi t u ht h1 h2 =>
    simp only at h0 ha hi
    subst h0 ht hi
    have HLN := Lib.hid (show [t, u].length = 2 from rfl)
    have HX := Lib.hid (show (⟨#[82, 40]⟩ : ByteArray) ++ bs (textT t) ++ ⟨#[59]⟩ ++ bs (textT u) ++ ⟨#[41]⟩ = bs (shapeX (4, a, 0) ([t, u].map textT)) by rw [shape_rep rfl, bs2, bs1, bs1]; simp only [bs_add]; congr 1; simp)
    have la : (bs (textT t)).size ≤ 359 := by rw [bs_size]; exact (HK.out t (by simp)).2
    have li : (bs (textT u)).size ≤ 359 := by rw [bs_size]; exact (HK.out u (by simp)).2
    obtain ⟨p0, r0, hp0, hpl0, hf0⟩ := part_pl H.out HF.out (i := 0) (t := t) rfl
    obtain ⟨p1, r1, hp1, hpl1, hf1⟩ := part_pl H.out HF.out (i := 1) (t := u) rfl
    have HF0 := Lib.hid hf0; have HF1 := Lib.hid hf1; have HP0 := Lib.hid hpl0; have HP1 := Lib.hid hpl1
    clear hf0 hf1 hpl0 hpl1
    go_enter Tryd.func20, Tryd.ntmps20
    go_wp2_with (first | (go_at_call 33; refine (l11Parts_c (some ad) n cp f k _ _ r _ (H.out.alloc _) hn HF.out HOS.out _ HLN.out).mono ?_; rintro e w2 ⟨A2, c2, rfl, hA2, hb2⟩; have RA := Lib.hid hA2; obtain ⟨y0, y1, y2⟩ := K0.out _ hb2; have BB := Lib.hid ((below_size.alloc (Nat.le_refl _) _).trans (hb2.mono (by simp))); have RD := Lib.hid ((H.out.alloc _).below hb2); clear hA2 hb2) | (go_at_call 34; refine (l01Dec_c a _ (by omega) (by omega)).mono ?_; rintro e w3 ⟨rfl, hb3⟩; have E3 := Lib.hid (below_chain BB.out BB.out.size hb3); clear hb3))
    obtain ⟨pd, rfl, hpd⟩ := place_at RA.out HP0.out (by omega)
    obtain ⟨pe, e, hpe⟩ := place_at RA.out HP1.out (by omega)
    injection e with e; subst e
    have hpe' := hpe
    rw [addr1f] at hpe'
    rw [addrZf] at hpd
    have x0 := Ext.cell hpd; have x1 := Ext.cell hpe; have x2 := Ext.cell hpe'
    refine Mix.wp_region_mix [0, 0, 0, 3, 1, 0, 0, 0, 0, 0, 3, 1, 0, 0, 0] (fun w' => ∃ x : Ext w2, w' = x.w) (by kernel_rfl) (by kernel_rfl) (InExt.drew _) ?_
    repeat (first | (refine Mix.wpMix_read (by rfl) ?_; go_big_quiet_step (fail); refine wpQuiet_nil ?_) | (refine Mix.wpMix_pure (by rfl) ?_; go_big_quiet_step (fail); refine wpQuiet_nil ?_))
    refine Mix.wpMix_chg (by rfl) (fun K hK => ?_)
    go_wp2_with fail
    refine (HI.out t (by simp) p0 _ _ (by exact Rd.drew RD.out) HF0.out).mono ?_
    rintro e w3 ⟨rfl, hb3⟩
    have E3 := Lib.hid (show Below w2.heap.size w2 w3 from below_of_drew hb3)
    clear hb3
    go_wp2_with fail
    refine hK _ _ ⟨⟨_, E3.out⟩, rfl⟩ ?_
    clear hK K
    repeat (first | (refine Mix.wpMix_read (by rfl) ?_; go_big_quiet_step (fail); refine wpQuiet_nil ?_) | (refine Mix.wpMix_pure (by rfl) ?_; go_big_quiet_step (fail); refine wpQuiet_nil ?_))
    refine Mix.wpMix_chg (by rfl) (fun K hK => ?_)
    go_wp2_with fail
    refine (HI.out u (by simp) p1 _ _ (by exact Rd3.below RD.out E3.out) HF1.out).mono ?_
    rintro e w4 ⟨rfl, hb4⟩
    have E4 := Lib.hid (below_chain E3.out E3.out.size hb4)
    clear hb4
    go_wp2_with fail
    refine hK _ _ ⟨⟨_, E4.out⟩, rfl⟩ ?_
    clear hK K
    repeat (first | (refine Mix.wpMix_read (by rfl) ?_; go_big_quiet_step (fail); refine wpQuiet_nil ?_) | (refine Mix.wpMix_pure (by rfl) ?_; go_big_quiet_step (fail); refine wpQuiet_nil ?_))
    (refine Mix.wpMix_nil ?_; try simp only [Exit.then])
    go_wp2_with fail
    go_ret
    exact ⟨by rw [← HX.out]; rfl, below_chain BB.out BB.out.size E4.out⟩
  | least h0 ha hi t ht h1 =>
    simp only at h0 ha hi
    subst h0 ht hi
    have HLN := Lib.hid (show [t].length = 1 from rfl)
    have HX := Lib.hid (show (⟨#[77, 40]⟩ : ByteArray) ++ bs (textT t) ++ ⟨#[41]⟩ = bs (shapeX (5, a, 0) ([t].map textT)) by rw [shape_least rfl, bs2, bs1]; simp only [bs_add]; congr 1)
    have la : (bs (textT t)).size ≤ 359 := by rw [bs_size]; exact (HK.out t (by simp)).2
    obtain ⟨p0, r0, hp0, hpl0, hf0⟩ := part_pl H.out HF.out (i := 0) (t := t) rfl
    have HF0 := Lib.hid hf0; have HP0 := Lib.hid hpl0
    clear hf0 hpl0
    go_enter Tryd.func20, Tryd.ntmps20
    go_wp2_with (first | (go_at_call 33; refine (l11Parts_c (some ad) n cp f k _ _ r _ (H.out.alloc _) hn HF.out HOS.out _ HLN.out).mono ?_; rintro e w2 ⟨A2, c2, rfl, hA2, hb2⟩; have RA := Lib.hid hA2; obtain ⟨y0, y1, y2⟩ := K0.out _ hb2; have BB := Lib.hid ((below_size.alloc (Nat.le_refl _) _).trans (hb2.mono (by simp))); have RD := Lib.hid ((H.out.alloc _).below hb2); obtain ⟨pd, rfl, hpd⟩ := place_at RA.out HP0.out (by omega); rw [addrZf] at hpd; clear hA2 hb2) | (go_at_call 20; refine (HI.out t (by simp) p0 _ _ (by exact RD.out) HF0.out).mono ?_; rintro e w3 ⟨rfl, hb3⟩; have E3 := Lib.hid (below_chain BB.out BB.out.size hb3); have RA3 := Lib.hid (RdI.below RA.out hb3); have RD3 := Lib.hid (Rd3.below RD.out hb3); clear hb3))
    go_ret
    exact ⟨by rw [← HX.out]; rfl, E3.out⟩
  | comp h0 ha hi t u us0 ht h1 hl hu =>
    simp only at h0 ha hi h1 hl hu
    obtain ⟨us, hus⟩ : ∃ us, us = u :: us0 := ⟨_, rfl⟩
    have hul : (us.length : Int) = i := by rw [hus, List.length_cons]; omega
    rw [← hus] at ht
    subst h0 ht
    clear h1 hl hu hus
    obtain ⟨m, hm⟩ : ∃ m, (t :: us).length = m := ⟨_, rfl⟩
    have HLN := Lib.hid hm
    have hm5 : 2 ≤ m ∧ m ≤ 5 := by rw [← hm, List.length_cons]; omega
    have la : (bs (textT t)).size ≤ 359 := by rw [bs_size]; exact (HK.out t (by simp)).2
    have HJL := Lib.hid (show ∀ j, (Lib.join ((us.take j).map textT) [44]).length ≤ 1440 by
      intro j
      have h1 := join44_len (b := 359) (L := (us.take j).map textT) (fun y hy => by
        obtain ⟨v, hv, rfl⟩ := List.mem_map.1 hy
        exact (HK.out v (List.mem_cons_of_mem _ (List.mem_of_mem_take hv))).2)
      have h2 : ((us.take j).map textT).length ≤ 4 := by rw [List.length_map, List.length_take]; omega
      have h3 : ((us.take j).map textT).length * 360 ≤ 4 * 360 := Nat.mul_le_mul_right _ h2
      omega)
    have HLT := Lib.hid (show (textT t).length ≤ 359 from (HK.out t (by simp)).2)
    obtain ⟨cu, hcu⟩ : ∃ cu : Nat → List UInt8, cu = fun j => 67 :: 40 :: (textT t ++ 59 :: Lib.join ((us.take j).map textT) [44]) := ⟨_, rfl⟩
    have HCL := Lib.hid (show ∀ j, (bs (cu j)).size ≤ 2000 by
      intro j
      have h1 := HJL.out j; have h2 := HLT.out
      rw [bs_size, hcu]; simp only [List.length_cons, List.length_append]; omega)
    have HC0 := Lib.hid (show (⟨#[67, 40]⟩ : ByteArray) ++ bs (textT t) ++ ⟨#[59]⟩ = bs (cu 0) by rw [bs2, bs1, hcu]; simp only [bs_add]; congr 1)
    have HCE := Lib.hid (show bs (cu (m - 1)) ++ (⟨#[41]⟩ : ByteArray) = bs (shapeX (3, a, i) ((t :: us).map textT)) by
      rw [shape_comp rfl, bs1, hcu, bs_add]
      simp only [List.map_cons, List.getD_cons_zero, List.drop_succ_cons, List.drop_zero]
      rw [List.take_of_length_le (by rw [← hm, List.length_cons]; omega)]
      congr 1; simp)
    have HCS := Lib.hid (show ∀ j u, us[j]? = some u → (if 0 < j then bs (cu j) ++ ⟨#[44]⟩ ++ bs (textT u) else bs (cu j) ++ bs (textT u)) = bs (cu (j + 1)) by
      intro j u hu
      have h1 := join_at [44] (us.map textT) j (textT u) (by rw [List.getElem?_map, hu]; rfl)
      rw [← List.map_take, ← List.map_take] at h1
      rw [hcu]
      simp only
      rw [h1]
      split
      · rw [bs1]; simp only [bs_add]; congr 1; simp
      · simp only [bs_add]; congr 1
        rename_i hj
        obtain rfl : j = 0 := by omega
        simp [Lib.join])
    obtain ⟨p0, r0, hp0, hpl0, hf0⟩ := part_pl H.out HF.out (i := 0) (t := t) rfl
    have HF0 := Lib.hid hf0; have HP0 := Lib.hid hpl0
    clear hf0 hpl0 hcu hm
    have HUL := Lib.hid hul
    clear hul
    go_enter Tryd.func20, Tryd.ntmps20
    go_wp2_with (first | (go_at_call 33; refine (l11Parts_c (some ad) n cp f k _ _ r _ (H.out.alloc _) hn HF.out HOS.out _ HLN.out).mono ?_; rintro e w2 ⟨A2, c2, rfl, hA2, hb2⟩; have RA := Lib.hid hA2; obtain ⟨y0, y1, y2⟩ := K0.out _ hb2; have BB := Lib.hid ((below_size.alloc (Nat.le_refl _) _).trans (hb2.mono (by simp))); have RD := Lib.hid ((H.out.alloc _).below hb2); obtain ⟨pd, rfl, hpd⟩ := place_at RA.out HP0.out (by omega); rw [addrZf] at hpd; clear hA2 hb2) | (go_at_call 20; refine (HI.out t (by simp) p0 _ _ (by exact RD.out) HF0.out).mono ?_; rintro e w3 ⟨rfl, hb3⟩; have E3 := Lib.hid (below_chain BB.out BB.out.size hb3); have RA3 := Lib.hid (RdI.below RA.out hb3); have RD3 := Lib.hid (Rd3.below RD.out hb3); clear hb3))
    go_loopw [7, 8] (fun ov jv wr => ∃ j : Nat, 1 ≤ j ∧ j ≤ m ∧ jv = .int .i64 j ∧ ov = .string (bs (cu (j - 1))) ∧ Below w3.heap.size w3 wr) (fun _ jv _ => m - (intOf jv).toNat)
    case atStart => exact ⟨1, by omega, by omega, rfl, by rw [← HC0.out], below_size⟩
    case round =>
      obtain ⟨j, hj1, hj, rfl, rfl, hb⟩ := hrel
      have HB := Lib.hid hb
      have lo := HCL.out (j - 1)
      by_cases hlt : j < m
      · obtain ⟨v, hv⟩ : ∃ v, (t :: us)[j]? = some v := ⟨_, List.getElem?_eq_getElem (by rw [HLN.out]; exact hlt)⟩
        obtain ⟨p, r', hp, hpl, hf⟩ := part_pl H.out HF.out hv
        obtain ⟨pe, e, hpe⟩ := place_at (RdI.below RA3.out hb) hpl hlt
        injection e with e; subst e
        have hvm : v ∈ t :: us := List.mem_of_getElem? hv
        have lv : (bs (textT v)).size ≤ 359 := by rw [bs_size]; exact (HK.out v hvm).2
        have HV := Lib.hid (show us[j - 1]? = some v by rw [show j = j - 1 + 1 by omega, List.getElem?_cons_succ] at hv; exact hv)
        have HM := Lib.hid hvm; have HFV := Lib.hid hf
        clear hv hpl hf hvm hb
        by_cases hj2 : j = 1
        · have g1 : decide ((1 : Int) < (j : Int)) = false := decide_eq_false (by omega)
          have HN := Lib.hid (show bs (cu (j - 1)) ++ bs (textT v) = bs (cu j) by have := HCS.out (j - 1) v HV.out; rw [if_neg (by omega), show j - 1 + 1 = j by omega] at this; exact this)
          have HJ := Lib.hid hj2; clear hj2
          go_wp2_with (first | (go_at_call 20; refine (HI.out v HM.out p _ _ (by exact Rd3.below RD3.out HB.out) HFV.out).mono ?_; rintro e w4 ⟨rfl, hb4⟩; have E4 := Lib.hid (below_chain HB.out HB.out.size hb4); clear hb4))
          go_roundw
          case rel => exact ⟨j + 1, by omega, by omega, by go_num, by rw [Nat.add_sub_cancel, ← HN.out], E4.out⟩
          case measure => simp [intOf]; omega
        · have g1 : decide ((1 : Int) < (j : Int)) = true := decide_eq_true (by omega)
          have HN := Lib.hid (show bs (cu (j - 1)) ++ ⟨#[44]⟩ ++ bs (textT v) = bs (cu j) by have := HCS.out (j - 1) v HV.out; rw [if_pos (by omega), show j - 1 + 1 = j by omega] at this; exact this)
          go_wp2_with (first | (go_at_call 20; refine (HI.out v HM.out p _ _ (by exact Rd3.below RD3.out HB.out) HFV.out).mono ?_; rintro e w4 ⟨rfl, hb4⟩; have E4 := Lib.hid (below_chain HB.out HB.out.size hb4); clear hb4))
          go_roundw
          case rel => exact ⟨j + 1, by omega, by omega, by go_num, by rw [Nat.add_sub_cancel, ← HN.out], E4.out⟩
          case measure => simp [intOf]; omega
      · have HN := Lib.hid (show bs (cu (j - 1)) ++ (⟨#[41]⟩ : ByteArray) = bs (shapeX (3, a, i) ((t :: us).map textT)) by rw [← HCE.out, show j = m by omega])
        clear hb
        go_wp2_with fail
        go_ret
        exact ⟨by rw [← HN.out]; rfl, below_chain E3.out E3.out.size HB.out⟩
end Go.Proofs.YtnoapoaajidncaaDoor
