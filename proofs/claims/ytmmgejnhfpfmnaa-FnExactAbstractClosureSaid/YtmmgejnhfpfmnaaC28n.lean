/-
  Contracts of chapter 28 (automata): the reference's number of an abstraction, and the abstractions to which a rule leads.
-/
import Derived.Test.YtmmgejnhfpfmnaaC28a
import Derived.Test.YtmmgejnhfpfmnaaP28n
import Derived.Test.YtmmgejnhfpfmnaaEqI
import Derived.Test.YtmmgejnhfpfmnaaDiv
namespace Go.Proofs.Ytmmgejnhfpfmnaa
open Go.RowKit

theorem rd4 {w : World} {A : Option Addr} {a b c d : Int} (h : RdI w A 4 [a, b, c, d]) : ∃ ad, A = some ad ∧ ad.block < w.heap.size ∧ w.cell? ad = some (i64 a) ∧ w.cell? ⟨ad.block, ad.off + 1, none⟩ = some (i64 b) ∧ w.cell? ⟨ad.block, ad.off + 2, none⟩ = some (i64 c) ∧ w.cell? ⟨ad.block, ad.off + 3, none⟩ = some (i64 d) := by
  obtain ⟨ad, e, hb, hc⟩ := h.2 (by omega)
  have h0 := hc 0 _ rfl; have h1 := hc 1 _ rfl; have h2 := hc 2 _ rfl; have h3 := hc 3 _ rfl
  refine ⟨ad, e, hb, ?_, ?_, ?_, ?_⟩
  · simpa [Addr.add] using h0
  · simpa [Addr.add] using h1
  · simpa [Addr.add] using h2
  · simpa [Addr.add] using h3
theorem mul_le2 {a b A B : Int} (ha : 0 ≤ a ∧ a ≤ A) (hb : 0 ≤ b ∧ b ≤ B) : 0 ≤ a * b ∧ a * b ≤ A * B := ⟨Int.mul_nonneg ha.1 hb.1, Int.mul_le_mul ha.2 hb.2 hb.1 (by omega)⟩
theorem key_bounds {sl st sy sr : Int} {a b c d : Int} (hsl : 1 ≤ sl ∧ sl ≤ 20) (hst : 1 ≤ st ∧ st ≤ 1000) (hsy : 2 ≤ sy ∧ sy ≤ 6) (hsr : 1 ≤ sr ∧ sr ≤ 20) (h : NdOk sl st sy sr (a, b, c, d)) :
    (0 ≤ a * st ∧ a * st ≤ 20000) ∧ (0 ≤ (a * st + b) * sy ∧ (a * st + b) * sy ≤ 126000) ∧ (0 ≤ ((a * st + b) * sy + c) * sr ∧ ((a * st + b) * sy + c) * sr ≤ 2520120) ∧ b ≤ 1000 ∧ c ≤ 6 ∧ d ≤ 20 ∧ 0 ≤ b ∧ 0 ≤ c ∧ 0 ≤ d := by
  have h1 := h.a; have h2 := h.b; have h3 := h.c; have h4 := h.d
  simp only at h1 h2 h3 h4
  have e1 := mul_le2 (a := a) (b := st) (A := 20) (B := 1000) (by omega) (by omega)
  have e2 := mul_le2 (a := a * st + b) (b := sy) (A := 21000) (B := 6) (by omega) (by omega)
  have e3 := mul_le2 (a := (a * st + b) * sy + c) (b := sr) (A := 126006) (B := 20) (by omega) (by omega)
  omega
set_option maxHeartbeats 2000000 in
theorem l28Key_c (g : Nat) (sy st : Int) (A : Option Addr) (n cp : Nat) (rs : List Rule3) (gl : Nat) (sl : Int) (gr : Nat) (sr : Int) (Ar : Option Addr) (nr cr : Nat) (xr : List Int) (A' : Option Addr) (c' : Nat) (y : Nd) (w : World)
    (h : MachP w g sy st A n cp rs) (hr : DfaP w gr sr Ar nr cr xr) (hsl : 1 ≤ sl ∧ sl ≤ 20) (hst : 1 ≤ st ∧ st ≤ 1000) (hsy : 2 ≤ sy ∧ sy ≤ 6) (hsr : 1 ≤ sr ∧ sr ≤ 20) (hy : RdI w A' 4 (ndL y)) (hok : NdOk sl st sy sr y) :
    Calls Try.prog 98 #[.pointer (some ⟨g, 0, none⟩), .pointer (some ⟨gl, 0, none⟩), .pointer (some ⟨gr, 0, none⟩), .slice A' 4 c'] w fun e w' => e = .returned (.int .i64 (keyN st sy sr y)) ∧ Qt w w' := by
  obtain ⟨a, b, c, d⟩ := y
  obtain ⟨ad, rfl, hab, c0, c1, c2, c3⟩ := rd4 hy
  obtain ⟨e1, e2, e3, e4⟩ := key_bounds hsl hst hsy hsr hok
  have m0 := h.c0; have m1 := h.c1; have r0 := hr.c0
  have v1 : IntKind.i64.wrap (a * st) = a * st := IntWalk.i64_in _ (by omega)
  have v2 : IntKind.i64.wrap (a * st + b) = a * st + b := IntWalk.i64_in _ (by omega)
  have v3 : IntKind.i64.wrap ((a * st + b) * sy) = (a * st + b) * sy := IntWalk.i64_in _ (by omega)
  have v4 : IntKind.i64.wrap ((a * st + b) * sy + c) = (a * st + b) * sy + c := IntWalk.i64_in _ (by omega)
  have v5 : IntKind.i64.wrap (((a * st + b) * sy + c) * sr) = ((a * st + b) * sy + c) * sr := IntWalk.i64_in _ (by omega)
  have v6 : IntKind.i64.wrap (((a * st + b) * sy + c) * sr + d) = ((a * st + b) * sy + c) * sr + d := IntWalk.i64_in _ (by omega)
  clear h hr hy hok e1 e2 e3 e4
  go_enter Try.func98, Try.ntmps98
  go_wp2_with fail
  go_quiet (fail)
  go_wp2_with fail
  go_ret
  exact ⟨rfl, ⟨_, rfl⟩⟩
theorem ndL_len (y : Nd) : (ndL y).length = 4 := rfl
/-- the rule that is read for an abstraction -/
theorem rule_read {sy st : Int} {rs : List Rule3} {q c : Int} (hm : machB sy st rs = true) (hq : 0 ≤ q ∧ q < st) (hc : 0 ≤ c ∧ c < sy) : ∃ i : Nat, q * sy + c = (i : Int) ∧ i < rs.length ∧ rs[i]? = some (ruleAt rs sy q c) ∧ 0 ≤ q * sy ∧ q * sy ≤ 6000 := by
  have hl := (machB_bd hm).2.2
  have h1 := (machB_bd hm).1; have h2 := (machB_bd hm).2.1
  have hi := idx_lt hq hc
  have he : (rs.length : Int) = st * sy := by rw [hl, Int.mul_comm]
  obtain ⟨n, hn⟩ := Int.eq_ofNat_of_zero_le hi.2.1
  have hlt : n < rs.length := by omega
  have hb := mul_bd2 h1 h2
  refine ⟨n, hn, hlt, ?_, hi.1, by omega⟩
  unfold ruleAt
  rw [hn, Int.toNat_natCast, List.getD_eq_getElem?_getD, List.getElem?_eq_getElem hlt]; rfl
theorem next_read {sl sy : Int} {xs : List Int} (h : DfaOk sl sy xs) {a b : Int} (ha : 0 ≤ a ∧ a < sl) (hb : 0 ≤ b ∧ b < sy) : ∃ i : Nat, a * sy + b = (i : Int) ∧ i < xs.length ∧ xs[i]? = some (nextOf xs (a * sy + b)) ∧ 0 ≤ a * sy ∧ a * sy ≤ 120 ∧ xs.length ≤ 120 := by
  have hi := idx_lt ha hb
  have hl := h.len
  have hb2 := mul_bd h.sy h.stt
  obtain ⟨n, hn⟩ := Int.eq_ofNat_of_zero_le hi.2.1
  have hlt : n < xs.length := by omega
  refine ⟨n, hn, hlt, ?_, hi.1, by omega, by omega⟩
  rw [hn, nextOf_at (List.getElem?_eq_getElem hlt), List.getElem?_eq_getElem hlt]
/-- the k-th round of the search for origins -/
theorem orig_round {sy to : Int} {xs : List Int} {k : Nat} {v : Int} (h : xs[k]? = some v) : orig sy to k (xs.drop k) = (if v = to then [((k : Int) / sy, (k : Int) % sy)] else []) ++ orig sy to (k + 1) (xs.drop (k + 1)) := by
  rw [drop_at h, orig]; split <;> rfl
set_option maxHeartbeats 8000000 in
set_option maxRecDepth 100000 in
theorem l28Steps_c (g : Nat) (sy st : Int) (A : Option Addr) (n cp : Nat) (rs : List Rule3) (gl : Nat) (sl : Int) (Al : Option Addr) (nl cl : Nat) (xl : List Int) (gr : Nat) (sr : Int) (Ar : Option Addr) (nr cr : Nat) (xr : List Int) (A' : Option Addr) (c' : Nat) (y : Nd) (w : World)
    (h : MachP w g sy st A n cp rs) (hl : DfaP w gl sl Al nl cl xl) (hr : DfaP w gr sr Ar nr cr xr) (hm : machB sy st rs = true) (hdl : DfaOk sl sy xl) (hdr : DfaOk sr sy xr) (hy : RdI w A' 4 (ndL y)) (hok : NdOk sl st sy sr y) :
    Calls Try.prog 97 #[.pointer (some ⟨g, 0, none⟩), .pointer (some ⟨gl, 0, none⟩), .pointer (some ⟨gr, 0, none⟩), .slice A' 4 c'] w (IIOut ((stepsN rs sy xl xr y).map ndL) w) := by
  obtain ⟨R, hR⟩ : ∃ R, (stepsN rs sy xl xr y).map ndL = R := ⟨_, rfl⟩
  rw [hR]
  have HRR := Lib.hid hR
  obtain ⟨a, b, c, d⟩ := y
  obtain ⟨ad, rfl, hab, c0, c1, c2, c3⟩ := rd4 hy
  have ha := hok.a; have hb := hok.b; have hc := hok.c; have hd := hok.d
  simp only at ha hb hc hd
  obtain ⟨ir, hir, hirl, hirv, hp0, hp1⟩ := rule_read hm hb hc
  have hsy := (machB_bd hm).1
  have hlen := h.rd.len
  obtain ⟨ar, xv, rfl, _, hxv, r0, r1, r2⟩ := h.rd.at_ (k := ir) (by omega)
  rw [hirv] at hxv; injection hxv with hxv
  obtain ⟨p, q, t⟩ := xv
  have HN := Lib.hid (show (p, q, t) ≠ noneR → (0 ≤ p ∧ p < sy) ∧ (q = 1 ∨ q = -1) ∧ (0 ≤ t ∧ t < st) by
    intro hne
    have h1 := mach_rules hm hb hc (by rw [hxv]; exact hne)
    rw [hxv] at h1; exact h1)
  have HR := Lib.hid (show R = (stepsR sy xl xr (p, q, t) (a, b, c, d)).map ndL by rw [← HRR.out, stepsN, hxv])
  have v1 : IntKind.i64.wrap (b * sy) = b * sy := IntWalk.i64_in _ (by omega)
  have v2 : IntKind.i64.wrap (b * sy + c) = (ir : Int) := (IntWalk.i64_in _ (by omega)).trans hir
  have m0 := h.c0; have m2 := h.c2
  have H := Lib.hid h; have HL := Lib.hid hl; have HRd := Lib.hid hr; have HDL := Lib.hid hdl; have HDR := Lib.hid hdr
  have HA := Lib.hid ha; have HD := Lib.hid hd
  have hirn : ir < n := by omega
  clear hR hy hok h hl hr hm hdl hdr hirv hxv hir hlen ha hb hc hd hp0 hp1
  have y0 := Ext.cell m0; have y1 := Ext.cell m2; have y2 := Ext.cell c1; have y3 := Ext.cell c2; have y4 := Ext.cell r0; have y5 := Ext.cell r1; have y6 := Ext.cell r2
  simp only at r0 r1 r2 y4 y5 y6
  go_enter Try.func97, Try.ntmps97
  go_wp2_with fail
  refine Mix.wp_region_mix [0, 0, 0, 3, 0, 0, 3, 0, 0, 0, 3, 0, 0, 0, 3, 0, 0, 3, 1, 2] (fun w' => ∃ x : Ext w, w' = x.w) (by kernel_rfl) (by kernel_rfl) (InExt.drew _) ?_
  repeat (first | (refine Mix.wpMix_read (by rfl) ?_; go_big_quiet_step (fail); refine wpQuiet_nil ?_) | (refine Mix.wpMix_pure (by rfl) ?_; go_big_quiet_step (fail); refine wpQuiet_nil ?_))
  refine Mix.wpMix_chg (by rfl) (fun K hK => ?_)
  go_wp2_with fail
  refine hK _ _ ⟨⟨_, below_drew (below_size.alloc (Nat.le_refl _) _)⟩, rfl⟩ ?_
  clear hK K
  refine Mix.wpMix_tail (by rfl) (fun K hK => ?_)
  go_wp2_with fail
  refine hK _ _ ?_
  clear hK K
  repeat (first | (refine Mix.wpMix_read (by rfl) ?_; go_big_quiet_step (fail); refine wpQuiet_nil ?_) | (refine Mix.wpMix_pure (by rfl) ?_; go_big_quiet_step (fail); refine wpQuiet_nil ?_))
  (refine Mix.wpMix_nil ?_; try simp only [Exit.then])
  clear y0 y1 y2 y3 y4 y5 y6
  obtain ⟨wn, hwn⟩ : ∃ wn, (w.alloc (.cells #[i64 p, i64 q, i64 t] 116)).drew = wn := ⟨_, rfl⟩
  have XB := Lib.hid (show Blk wn w.heap.size 116 #[i64 p, i64 q, i64 t] by rw [← hwn]; exact (Blk.new w _ _).drew)
  have EB := Lib.hid (show Below w.heap.size w wn by rw [← hwn]; exact below_drew (below_size.alloc (Nat.le_refl _) _))
  have hzn := EB.out.size
  have x0 := XB.out.cell 0; have x1 := XB.out.cell 1; have x2 := XB.out.cell 2
  simp at x0 x1 x2
  have OZ := Lib.hid (OwnS.nil (Own.litK (k := 1) (w := wn) (B := wn.heap.size) (e := 25) (Nat.le_refl _)))
  have x0a := keepa (.cells #[] 25) x0; have x1a := keepa (.cells #[] 25) x1; have x2a := keepa (.cells #[] 25) x2
  have y0 := Ext.cell x0a; have y1 := Ext.cell x1a; have y2 := Ext.cell x2a
  clear x0 x1 x2 r0 r1 r2
  rw [hwn]
  clear hwn
  go_wp2_with fail
  rcases rule_cases p q t with ⟨hnon, rfl, rfl, rfl⟩ | ⟨hnon, hne'⟩
  · have HF := Lib.hid (show R = [] by rw [HR.out, stepsR, if_pos hnon]; rfl)
    clear hnon
    refine Mix.wp_region_mix [3, 1, 0] (fun w' => ∃ x : Ext (wn.alloc (.cells #[] 25)), w' = x.w) (by kernel_rfl) (by kernel_rfl) (InExt.drew _) ?_
    repeat (first | (refine Mix.wpMix_read (by rfl) ?_; go_big_quiet_step (fail); refine wpQuiet_nil ?_) | (refine Mix.wpMix_pure (by rfl) ?_; go_big_quiet_step (fail); refine wpQuiet_nil ?_))
    refine Mix.wpMix_chg (by rfl) (fun K hK => ?_)
    go_wp2_with fail
    refine (l05None_c _).mono ?_
    rintro e w3 ⟨rfl, hb⟩
    have em := below_of_drew hb
    go_wp2_with fail
    refine hK _ _ ⟨⟨_, em⟩, rfl⟩ ?_
    clear hK K
    repeat (first | (refine Mix.wpMix_read (by rfl) ?_; go_big_quiet_step (fail); refine wpQuiet_nil ?_) | (refine Mix.wpMix_pure (by rfl) ?_; go_big_quiet_step (fail); refine wpQuiet_nil ?_))
    (refine Mix.wpMix_nil ?_; try simp only [Exit.then])
    have O3 := Lib.hid (OZ.out.keep em)
    have E3 := Lib.hid (below_chain EB.out hzn (up1 em))
    clear y0 y1 y2 x0a x1a x2a hb em
    go_wp2_with fail
    go_ret
    rw [HF.out]
    exact ⟨_, _, _, [], rfl, (OwnS.wrII (its := []) O3.out).wider hzn (Nat.le_refl _), ⟨by omega, by simp, by simp [sumN], rfl⟩, E3.out⟩
  have hne2 := rule_ne p q t hne'
  obtain ⟨hp, hq, ht⟩ := HN.out hnon
  have HP := Lib.hid hp
  clear hne' hp ht
  refine Mix.wp_region_mix [3, 1, 0] (fun w' => ∃ x : Ext (wn.alloc (.cells #[] 25)), w' = x.w) (by kernel_rfl) (by kernel_rfl) (InExt.drew _) ?_
  repeat (first | (refine Mix.wpMix_read (by rfl) ?_; go_big_quiet_step (fail); refine wpQuiet_nil ?_) | (refine Mix.wpMix_pure (by rfl) ?_; go_big_quiet_step (fail); refine wpQuiet_nil ?_))
  refine Mix.wpMix_chg (by rfl) (fun K hK => ?_)
  go_wp2_with fail
  refine (l05None_c _).mono ?_
  rintro e w3 ⟨rfl, hb⟩
  have em := below_of_drew hb
  go_wp2_with fail
  refine hK _ _ ⟨⟨_, em⟩, rfl⟩ ?_
  clear hK K
  repeat (first | (refine Mix.wpMix_read (by rfl) ?_; go_big_quiet_step (fail); refine wpQuiet_nil ?_) | (refine Mix.wpMix_pure (by rfl) ?_; go_big_quiet_step (fail); refine wpQuiet_nil ?_))
  (refine Mix.wpMix_nil ?_; try simp only [Exit.then])
  have O3 := Lib.hid (OZ.out.keep em)
  have E3 := Lib.hid (show Below wn.heap.size wn w3 from up1 em)
  have x0 := keepc em x0a; have x1 := keepc em x1a; have x2 := keepc em x2a
  clear y0 y1 y2 x0a x1a x2a hb em hne2
  have c0' := keepc EB.out c0; have c3' := keepc EB.out c3
  have D0 := Lib.hid (And.intro c0' c3')
  have MN := Lib.hid (H.out.below EB.out); have LN := Lib.hid (HL.out.below EB.out); have RN := Lib.hid (HRd.out.below EB.out)
  have c0 := keepc E3.out c0'; have c3 := keepc E3.out c3'
  clear c0' c3' c1 c2
  have L3 := LN.out.below E3.out; have R3 := RN.out.below E3.out
  have m0 := (MN.out.below E3.out).c0
  have HSY := Lib.hid hsy
  rcases hq with rfl | rfl
  · obtain ⟨iu, hiu, hiul, hiuv, hu0, hu1, hul⟩ := next_read HDL.out HA.out HP.out
    obtain ⟨au, uv, eu, hau, huv, hcu⟩ := L3.rd.at_ (k := iu) (by have := L3.rd.len; omega)
    rw [hiuv] at huv
    injection huv with huv
    subst eu
    have v1 : IntKind.i64.wrap (a * sy) = a * sy := IntWalk.i64_in _ (by omega)
    have v2 : IntKind.i64.wrap (a * sy + p) = (iu : Int) := (IntWalk.i64_in _ (by omega)).trans hiu
    have hiun : iu < nl := by have := L3.rd.len; omega
    have hle : nr ≤ 120 := by have := RN.out.rd.len; have h1 := HDR.out.len; have h2 := mul_bd HDR.out.sy HDR.out.stt; omega
    have lc1 := L3.c1
    obtain ⟨u, hu⟩ : ∃ u, nextOf xl (a * sy + p) = u := ⟨_, rfl⟩
    rw [hu] at huv; subst huv
    clear hiuv hu0 hu1 hul hiul hiu
    have HS := Lib.hid (show R = (orig sy d 0 xr).map (fun p => ndL (u, t, p.2, p.1)) by
      rw [HR.out, stepsR, if_neg hnon, if_pos rfl]
      rw [List.map_map]; rw [← hu]; rfl)
    clear hnon HN
    have k1 : ((1 : Int) == 1) = true := by rfl
    go_wp2_with fail
    go_quiet (fail)
    go_wp2_with fail
    obtain ⟨wd, hwd⟩ : ∃ wd, w3.drewN nq = wd := ⟨_, rfl⟩
    have ED := Lib.hid (show Below wn.heap.size wn wd by rw [← hwd]; exact below_drewN E3.out nq)
    have OD := Lib.hid (show OwnS wd wn.heap.size 25 1 (some ⟨wn.heap.size, 0, none⟩) 0 0 [] [] by rw [← hwd]; exact O3.out.drewN nq)
    rw [hwd]
    clear hwd c0 c3 x0 x1 x2 m0 hcu
    go_loopw [10, 12] (fun ov iv wr => ∃ (k m : Nat) (O : Option Addr) (oc : Nat) (its : List It), k ≤ nr ∧ iv = .int .i64 k ∧ ov = .slice O m oc ∧ m ≤ k ∧ Hid (its.length = m) ∧ Hid (R = its.map It.xs ++ (orig sy d k (xr.drop k)).map (fun p => ndL (u, t, p.2, p.1))) ∧ Hid (∀ t ∈ its, t.n ≤ 4) ∧
      Hid (OwnS wr wn.heap.size 25 1 O m oc (its.map hdI) (its.map bodyI)) ∧ Below wn.heap.size wn wr) (fun _ iv _ => nr - (intOf iv).toNat)
    case atStart => exact ⟨0, 0, _, _, [], by omega, rfl, rfl, by omega, rfl, by rw [HS.out]; rfl, by unfold Hid; simp, OD.out, ED.out⟩
    case round =>
      obtain ⟨k, m, O, oc, its, hk, rfl, rfl, hmk, hpl, hr, hp1, hO, hb⟩ := hrel
      have HB := Lib.hid hb
      have hwz := hb.size
      have RW := Lib.hid (RN.out.below hb)
      have rc1 := RW.out.c1
      by_cases hlt : k < nr
      · obtain ⟨ao, v, rfl, hao, hv, hcv⟩ := RW.out.rd.at_ hlt
        have HS2 := Lib.hid (show R = its.map It.xs ++ ((if v = d then [((k : Int) / sy, (k : Int) % sy)] else []) ++ orig sy d (k + 1) (xr.drop (k + 1))).map (fun p => ndL (u, t, p.2, p.1)) by rw [hr.out, orig_round hv])
        have cd := keepc hb D0.out.2
        have m0 := (MN.out.below hb).c0
        have hx2 : wr.cell? ⟨w.heap.size, 2, none⟩ = some (i64 t) := by have := (XB.out.keep hb).cell 2; simpa using this
        clear hb hr hv
        by_cases hvt : v = d
        · have kv : (v == d) = true := by simpa using hvt
          have HS3 := Lib.hid (show R = (its.map It.xs ++ [[u, t, (k : Int) % sy, (k : Int) / sy]]) ++ (orig sy d (k + 1) (xr.drop (k + 1))).map (fun p => ndL (u, t, p.2, p.1)) by rw [HS2.out, if_pos hvt]; simp [ndL])
          clear hvt HS2
          go_wp2_with fail
          go_quiet (fail)
          go_wp2_with fail
          obtain ⟨we, hwe⟩ : ∃ we, wr.drewN nq = we := ⟨_, rfl⟩
          have EE := Lib.hid (show Below wr.heap.size wr we by rw [← hwe]; exact below_drewN below_size nq)
          rw [hwe]
          clear hwe
          have m0 := keepc EE.out m0; have hx2 := keepc EE.out hx2
          have y0 := Ext.cell m0; have y1 := Ext.cell hx2
          have v1 : wrap64 ((k : Int) / sy) = (k : Int) / sy := by unfold wrap64; have := div_bd (k := k) (n := nr) HSY.out (by omega) (by omega); omega
          have hzz := EE.out.size
          refine Mix.wp_region_mix [0, 0, 0, 3, 0, 0, 0, 0, 3, 0, 0, 0, 0, 0, 3, 0, 1, 1, 2, 0] (fun w' => ∃ x : Ext we, w' = x.w) (by kernel_rfl) (by kernel_rfl) (InExt.drew _) ?_
          repeat (first | (refine Mix.wpMix_read (by rfl) ?_; go_big_quiet_step (fail); refine wpQuiet_nil ?_) | (refine Mix.wpMix_pure (by rfl) ?_; go_big_quiet_step (fail); refine wpQuiet_nil ?_))
          refine Mix.wpMix_chg (by rfl) (fun K hK => ?_)
          go_wp2_with fail
          refine hK _ _ ⟨⟨_, below_drew (below_size.alloc (Nat.le_refl _) _)⟩, rfl⟩ ?_
          clear hK K
          repeat (first | (refine Mix.wpMix_read (by rfl) ?_; go_big_quiet_step (fail); refine wpQuiet_nil ?_) | (refine Mix.wpMix_pure (by rfl) ?_; go_big_quiet_step (fail); refine wpQuiet_nil ?_))
          refine Mix.wpMix_chg (by rfl) (fun K hK => ?_)
          go_wp2_with fail
          refine hK _ _ ⟨⟨_, below_drew ((below_size.alloc (Nat.le_refl _) _).alloc (by simp) _)⟩, rfl⟩ ?_
          clear hK K v1
          obtain ⟨wa, hwa⟩ : ∃ wa, ((we.alloc (.cells #[i64 u, i64 t, i64 ((k : Int) % sy), i64 ((k : Int) / sy)] 2)).alloc (.cells #[.slice (some ⟨we.heap.size, 0, none⟩) 4 4] 25)).drew = wa := ⟨_, rfl⟩
          rw [hwa]
          have EA := Lib.hid (show Below wr.heap.size wr wa by rw [← hwa]; exact below_drew ((EE.out.alloc hzz _).alloc (by simp; omega) _))
          have WA := Lib.hid (show Wr wa wr.heap.size wa.heap.size (some ⟨we.heap.size, 0, none⟩) 4 ([u, t, (k : Int) % sy, (k : Int) / sy].map i64) by
            rw [← hwa]; exact (((Blk.new we 2 #[i64 u, i64 t, i64 ((k : Int) % sy), i64 ((k : Int) / sy)]).alloc _).drew).wr hzz (by simp; omega) rfl (by simp))
          have CA : wa.cell? ⟨we.heap.size + 1, 0, none⟩ = some (.slice (some ⟨we.heap.size, 0, none⟩) 4 4) := by
            rw [← hwa]; have := new_cell (we.alloc (.cells #[i64 u, i64 t, i64 ((k : Int) % sy), i64 ((k : Int) / sy)] 2)) #[.slice (some ⟨we.heap.size, 0, none⟩) 4 4] 25 0; rw [World.size_alloc] at this; exact this
          have hz : wn.heap.size ≤ wa.heap.size := by have := EA.out.size; omega
          have OA := Lib.hid (hO.out.keep EA.out)
          clear hwa
          refine Mix.wpMix_tail (by rfl) (fun K hK => ?_)
          refine wp_app1 (by rfl) _ _ 27 25 (.slice none 0 0) 24 (by rfl) Try.underlying27 info_I64S rfl wn.heap.size O m oc (its.map hdI) (by rfl) (by exact OA.out.own) (we.heap.size + 1) (.slice (some ⟨we.heap.size, 0, none⟩) 4 4) (by rfl) CA rfl (by omega) (by omega) hz ?_
          intro g' cap w5 own3 hb3 hk3 hg3 hz3
          have O5 := Lib.hid (hO.out.push (s := sgI (some ⟨we.heap.size, 0, none⟩) 4 [u, t, (k : Int) % sy, (k : Int) / sy]) (by omega) EA.out WA.out own3 hk3 hg3 hz3)
          have B5 := Lib.hid (HB.out.trans ((EA.out.mono hwz).trans hb3))
          clear own3 hb3 hk3 hg3 CA
          go_wp2_with fail
          refine hK _ _ ?_
          clear hK K
          repeat (first | (refine Mix.wpMix_read (by rfl) ?_; go_big_quiet_step (fail); refine wpQuiet_nil ?_) | (refine Mix.wpMix_pure (by rfl) ?_; go_big_quiet_step (fail); refine wpQuiet_nil ?_))
          (refine Mix.wpMix_nil ?_; try simp only [Exit.then])
          go_wp2_with fail
          go_roundw
          case rel =>
            refine ⟨k + 1, m + 1, some ⟨g', 0, none⟩, cap, its ++ [⟨some ⟨we.heap.size, 0, none⟩, 4, 4, [u, t, (k : Int) % sy, (k : Int) / sy]⟩], by omega, by go_num, rfl, by omega, by unfold Hid; rw [List.length_append, hpl.out]; rfl, by unfold Hid; rw [HS3.out]; simp, ?_, O5.out.snocII, B5.out⟩
            intro t ht
            rcases List.mem_append.1 ht with ht | ht
            · exact hp1.out t ht
            · rw [List.mem_singleton] at ht; subst ht; exact Nat.le_refl 4
          case measure => simp [intOf]; omega
        · have kv : (v == d) = false := by simpa using hvt
          have HS3 := Lib.hid (show R = its.map It.xs ++ (orig sy d (k + 1) (xr.drop (k + 1))).map (fun p => ndL (u, t, p.2, p.1)) by rw [HS2.out, if_neg hvt]; rfl)
          clear hvt HS2
          go_wp2_with fail
          go_quiet (fail)
          go_wp2_with fail
          go_roundw
          case rel => exact ⟨k + 1, m, O, oc, its, by omega, by go_num, rfl, by omega, hpl, HS3.out, hp1, hO.out.drewN _, below_drewN HB.out _⟩
          case measure => simp [intOf]; omega
      · have HF := Lib.hid (show its.map It.xs = R by rw [hr.out, List.drop_eq_nil_of_le (by have := RN.out.rd.len; omega), orig, List.map_nil, List.append_nil])
        clear hb hr
        go_wp2_with fail
        go_ret
        refine ⟨O, m, oc, its, rfl, hO.out.wrII.wider hzn (Nat.le_refl _), ⟨by omega, fun t ht => by have := hp1.out t ht; omega, ?_, HF.out⟩, EB.out.trans (HB.out.mono hzn)⟩
        have := sumN_bd its 4 hp1.out
        rw [hpl.out] at this; omega
  · obtain ⟨iu, hiu, hiul, hiuv, hu0, hu1, hul⟩ := next_read HDR.out HD.out HP.out
    obtain ⟨au, uv, eu, hau, huv, hcu⟩ := R3.rd.at_ (k := iu) (by have := R3.rd.len; omega)
    rw [hiuv] at huv
    injection huv with huv
    subst eu
    have v1 : IntKind.i64.wrap (d * sy) = d * sy := IntWalk.i64_in _ (by omega)
    have v2 : IntKind.i64.wrap (d * sy + p) = (iu : Int) := (IntWalk.i64_in _ (by omega)).trans hiu
    have hiun : iu < nr := by have := R3.rd.len; omega
    have hle : nl ≤ 120 := by have := LN.out.rd.len; have h1 := HDL.out.len; have h2 := mul_bd HDL.out.sy HDL.out.stt; omega
    have lc1 := R3.c1
    obtain ⟨u, hu⟩ : ∃ u, nextOf xr (d * sy + p) = u := ⟨_, rfl⟩
    rw [hu] at huv; subst huv
    clear hiuv hu0 hu1 hul hiul hiu
    have HS := Lib.hid (show R = (orig sy a 0 xl).map (fun p => ndL (p.1, t, p.2, u)) by
      rw [HR.out, stepsR, if_neg hnon, if_neg (show ¬ (-1 : Int) = 1 by decide)]
      rw [List.map_map]; rw [← hu]; rfl)
    clear hnon HN
    have k1 : ((-1 : Int) == 1) = false := by rfl
    go_wp2_with fail
    go_quiet (fail)
    go_wp2_with fail
    obtain ⟨wd, hwd⟩ : ∃ wd, w3.drewN nq = wd := ⟨_, rfl⟩
    have ED := Lib.hid (show Below wn.heap.size wn wd by rw [← hwd]; exact below_drewN E3.out nq)
    have OD := Lib.hid (show OwnS wd wn.heap.size 25 1 (some ⟨wn.heap.size, 0, none⟩) 0 0 [] [] by rw [← hwd]; exact O3.out.drewN nq)
    rw [hwd]
    clear hwd c0 c3 x0 x1 x2 m0 hcu
    go_loopw [10, 14] (fun ov iv wr => ∃ (k m : Nat) (O : Option Addr) (oc : Nat) (its : List It), k ≤ nl ∧ iv = .int .i64 k ∧ ov = .slice O m oc ∧ m ≤ k ∧ Hid (its.length = m) ∧ Hid (R = its.map It.xs ++ (orig sy a k (xl.drop k)).map (fun p => ndL (p.1, t, p.2, u))) ∧ Hid (∀ t ∈ its, t.n ≤ 4) ∧
      Hid (OwnS wr wn.heap.size 25 1 O m oc (its.map hdI) (its.map bodyI)) ∧ Below wn.heap.size wn wr) (fun _ iv _ => nl - (intOf iv).toNat)
    case atStart => exact ⟨0, 0, _, _, [], by omega, rfl, rfl, by omega, rfl, by rw [HS.out]; rfl, by unfold Hid; simp, OD.out, ED.out⟩
    case round =>
      obtain ⟨k, m, O, oc, its, hk, rfl, rfl, hmk, hpl, hr, hp1, hO, hb⟩ := hrel
      have HB := Lib.hid hb
      have hwz := hb.size
      have RW := Lib.hid (LN.out.below hb)
      have rc1 := RW.out.c1
      by_cases hlt : k < nl
      · obtain ⟨ao, v, rfl, hao, hv, hcv⟩ := RW.out.rd.at_ hlt
        have HS2 := Lib.hid (show R = its.map It.xs ++ ((if v = a then [((k : Int) / sy, (k : Int) % sy)] else []) ++ orig sy a (k + 1) (xl.drop (k + 1))).map (fun p => ndL (p.1, t, p.2, u)) by rw [hr.out, orig_round hv])
        have cd := keepc hb D0.out.1
        have m0 := (MN.out.below hb).c0
        have hx2 : wr.cell? ⟨w.heap.size, 2, none⟩ = some (i64 t) := by have := (XB.out.keep hb).cell 2; simpa using this
        clear hb hr hv
        by_cases hvt : v = a
        · have kv : (v == a) = true := by simpa using hvt
          have HS3 := Lib.hid (show R = (its.map It.xs ++ [[(k : Int) / sy, t, (k : Int) % sy, u]]) ++ (orig sy a (k + 1) (xl.drop (k + 1))).map (fun p => ndL (p.1, t, p.2, u)) by rw [HS2.out, if_pos hvt]; simp [ndL])
          clear hvt HS2
          go_wp2_with fail
          go_quiet (fail)
          go_wp2_with fail
          obtain ⟨we, hwe⟩ : ∃ we, wr.drewN nq = we := ⟨_, rfl⟩
          have EE := Lib.hid (show Below wr.heap.size wr we by rw [← hwe]; exact below_drewN below_size nq)
          rw [hwe]
          clear hwe
          have m0 := keepc EE.out m0; have hx2 := keepc EE.out hx2
          have y0 := Ext.cell m0; have y1 := Ext.cell hx2
          have v1 : wrap64 ((k : Int) / sy) = (k : Int) / sy := by unfold wrap64; have := div_bd (k := k) (n := nl) HSY.out (by omega) (by omega); omega
          have hzz := EE.out.size
          refine Mix.wp_region_mix [0, 0, 0, 0, 0, 3, 0, 0, 3, 0, 0, 0, 0, 3, 0, 0, 1, 1, 2, 0] (fun w' => ∃ x : Ext we, w' = x.w) (by kernel_rfl) (by kernel_rfl) (InExt.drew _) ?_
          repeat (first | (refine Mix.wpMix_read (by rfl) ?_; go_big_quiet_step (fail); refine wpQuiet_nil ?_) | (refine Mix.wpMix_pure (by rfl) ?_; go_big_quiet_step (fail); refine wpQuiet_nil ?_))
          refine Mix.wpMix_chg (by rfl) (fun K hK => ?_)
          go_wp2_with fail
          refine hK _ _ ⟨⟨_, below_drew (below_size.alloc (Nat.le_refl _) _)⟩, rfl⟩ ?_
          clear hK K
          repeat (first | (refine Mix.wpMix_read (by rfl) ?_; go_big_quiet_step (fail); refine wpQuiet_nil ?_) | (refine Mix.wpMix_pure (by rfl) ?_; go_big_quiet_step (fail); refine wpQuiet_nil ?_))
          refine Mix.wpMix_chg (by rfl) (fun K hK => ?_)
          go_wp2_with fail
          refine hK _ _ ⟨⟨_, below_drew ((below_size.alloc (Nat.le_refl _) _).alloc (by simp) _)⟩, rfl⟩ ?_
          clear hK K v1
          obtain ⟨wa, hwa⟩ : ∃ wa, ((we.alloc (.cells #[i64 ((k : Int) / sy), i64 t, i64 ((k : Int) % sy), i64 u] 2)).alloc (.cells #[.slice (some ⟨we.heap.size, 0, none⟩) 4 4] 25)).drew = wa := ⟨_, rfl⟩
          rw [hwa]
          have EA := Lib.hid (show Below wr.heap.size wr wa by rw [← hwa]; exact below_drew ((EE.out.alloc hzz _).alloc (by simp; omega) _))
          have WA := Lib.hid (show Wr wa wr.heap.size wa.heap.size (some ⟨we.heap.size, 0, none⟩) 4 ([(k : Int) / sy, t, (k : Int) % sy, u].map i64) by
            rw [← hwa]; exact (((Blk.new we 2 #[i64 ((k : Int) / sy), i64 t, i64 ((k : Int) % sy), i64 u]).alloc _).drew).wr hzz (by simp; omega) rfl (by simp))
          have CA : wa.cell? ⟨we.heap.size + 1, 0, none⟩ = some (.slice (some ⟨we.heap.size, 0, none⟩) 4 4) := by
            rw [← hwa]; have := new_cell (we.alloc (.cells #[i64 ((k : Int) / sy), i64 t, i64 ((k : Int) % sy), i64 u] 2)) #[.slice (some ⟨we.heap.size, 0, none⟩) 4 4] 25 0; rw [World.size_alloc] at this; exact this
          have hz : wn.heap.size ≤ wa.heap.size := by have := EA.out.size; omega
          have OA := Lib.hid (hO.out.keep EA.out)
          clear hwa
          refine Mix.wpMix_tail (by rfl) (fun K hK => ?_)
          refine wp_app1 (by rfl) _ _ 27 25 (.slice none 0 0) 24 (by rfl) Try.underlying27 info_I64S rfl wn.heap.size O m oc (its.map hdI) (by rfl) (by exact OA.out.own) (we.heap.size + 1) (.slice (some ⟨we.heap.size, 0, none⟩) 4 4) (by rfl) CA rfl (by omega) (by omega) hz ?_
          intro g' cap w5 own3 hb3 hk3 hg3 hz3
          have O5 := Lib.hid (hO.out.push (s := sgI (some ⟨we.heap.size, 0, none⟩) 4 [(k : Int) / sy, t, (k : Int) % sy, u]) (by omega) EA.out WA.out own3 hk3 hg3 hz3)
          have B5 := Lib.hid (HB.out.trans ((EA.out.mono hwz).trans hb3))
          clear own3 hb3 hk3 hg3 CA
          go_wp2_with fail
          refine hK _ _ ?_
          clear hK K
          repeat (first | (refine Mix.wpMix_read (by rfl) ?_; go_big_quiet_step (fail); refine wpQuiet_nil ?_) | (refine Mix.wpMix_pure (by rfl) ?_; go_big_quiet_step (fail); refine wpQuiet_nil ?_))
          (refine Mix.wpMix_nil ?_; try simp only [Exit.then])
          go_wp2_with fail
          go_roundw
          case rel =>
            refine ⟨k + 1, m + 1, some ⟨g', 0, none⟩, cap, its ++ [⟨some ⟨we.heap.size, 0, none⟩, 4, 4, [(k : Int) / sy, t, (k : Int) % sy, u]⟩], by omega, by go_num, rfl, by omega, by unfold Hid; rw [List.length_append, hpl.out]; rfl, by unfold Hid; rw [HS3.out]; simp, ?_, O5.out.snocII, B5.out⟩
            intro t ht
            rcases List.mem_append.1 ht with ht | ht
            · exact hp1.out t ht
            · rw [List.mem_singleton] at ht; subst ht; exact Nat.le_refl 4
          case measure => simp [intOf]; omega
        · have kv : (v == a) = false := by simpa using hvt
          have HS3 := Lib.hid (show R = its.map It.xs ++ (orig sy a (k + 1) (xl.drop (k + 1))).map (fun p => ndL (p.1, t, p.2, u)) by rw [HS2.out, if_neg hvt]; rfl)
          clear hvt HS2
          go_wp2_with fail
          go_quiet (fail)
          go_wp2_with fail
          go_roundw
          case rel => exact ⟨k + 1, m, O, oc, its, by omega, by go_num, rfl, by omega, hpl, HS3.out, hp1, hO.out.drewN _, below_drewN HB.out _⟩
          case measure => simp [intOf]; omega
      · have HF := Lib.hid (show its.map It.xs = R by rw [hr.out, List.drop_eq_nil_of_le (by have := LN.out.rd.len; omega), orig, List.map_nil, List.append_nil])
        clear hb hr
        go_wp2_with fail
        go_ret
        refine ⟨O, m, oc, its, rfl, hO.out.wrII.wider hzn (Nat.le_refl _), ⟨by omega, fun t ht => by have := hp1.out t ht; omega, ?_, HF.out⟩, EB.out.trans (HB.out.mono hzn)⟩
        have := sumN_bd its 4 hp1.out
        rw [hpl.out] at this; omega
end Go.Proofs.Ytmmgejnhfpfmnaa
