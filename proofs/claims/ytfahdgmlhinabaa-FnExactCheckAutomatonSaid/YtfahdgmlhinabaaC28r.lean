/-
  Contracts of chapter 28 (automata): whether the reference's closure avoids halting.
-/
import Derived.Test.YtfahdgmlhinabaaC28o
namespace Go.Proofs.Ytfahdgmlhinabaa
open Go.RowKit

theorem clGo_ok {sl st sy sr : Int} {rs : List Rule3} {xl xr : List Int} (hm : machB sy st rs = true) (hl : DfaOk sl sy xl) (hr : DfaOk sr sy xr) : ∀ (f k : Nat) (l : List Nd) (o : List Nd), (∀ y ∈ l, NdOk sl st sy sr y) → clGo rs sy xl xr f k l = some o → ∀ y ∈ o, NdOk sl st sy sr y
  | 0, k, l, o, _, h => by rw [clGo] at h; cases h
  | f + 1, k, l, o, h0, h => by
    by_cases hk : k < l.length
    · have hx := List.getElem?_eq_getElem hk
      by_cases hb : 3000 < ((stepsN rs sy xl xr l[k]).foldl addN l).length
      · rw [clGo_full hx hb] at h; cases h
      · rw [clGo_on hx hb] at h
        exact clGo_ok hm hl hr f (k + 1) _ o (fold_ok _ (stepsN_ok hm hl hr (h0 _ (List.getElem_mem hk))) l h0) h
    · rw [clGo_end (by omega)] at h
      injection h with h; subst h; exact h0
theorem clR_ok {sl st sy sr : Int} {rs : List Rule3} {xl xr : List Int} (hm : machB sy st rs = true) (hl : DfaOk sl sy xl) (hr : DfaOk sr sy xr) {o : List Nd} (h : clR rs sy xl xr = some o) : ∀ y ∈ o, NdOk sl st sy sr y := by
  have h1 := (machB_bd hm).1; have h2 := (machB_bd hm).2.1; have h3 := hl.stt; have h4 := hr.stt
  refine clGo_ok hm hl hr _ _ _ o (fun y hy => ?_) h
  rw [List.mem_singleton] at hy; subst hy
  exact ⟨⟨Int.le_refl 0, by show (0 : Int) < sl; omega⟩, ⟨Int.le_refl 0, by show (0 : Int) < st; omega⟩, ⟨Int.le_refl 0, by show (0 : Int) < sy; omega⟩, ⟨Int.le_refl 0, by show (0 : Int) < sr; omega⟩⟩
theorem sortO_all {sl st sy sr : Int} {rs : List Rule3} {xl xr : List Int} {kz : Nat} (hm : machB sy st rs = true) (hl : DfaOk sl sy xl) (hr : DfaOk sr sy xr) (hk : (kz : Int) = sl * st * sy * sr) :
    ((sortO st sy sr kz (clR rs sy xl xr)).all (okN rs sy) && (clR rs sy xl xr).isSome) = avoidsB rs sy xl xr := by
  unfold avoidsB
  cases h : clR rs sy xl xr with
  | none => rfl
  | some l => rw [sortO, sortN_all hk (clR_ok hm hl hr h)]; simp
theorem sortO_ok {sl st sy sr : Int} {rs : List Rule3} {xl xr : List Int} {kz : Nat} (hm : machB sy st rs = true) (hl : DfaOk sl sy xl) (hr : DfaOk sr sy xr) (hk : (kz : Int) = sl * st * sy * sr) : ∀ y ∈ sortO st sy sr kz (clR rs sy xl xr), NdOk sl st sy sr y := by
  cases h : clR rs sy xl xr with
  | none => intro y hy; cases hy
  | some l => intro y hy; rw [sortO, sortN_mem hk (clR_ok hm hl hr h)] at hy; exact clR_ok hm hl hr h y hy
theorem take_all_next {l : List Nd} {k : Nat} {x : Nd} {p : Nd → Bool} (h : (l.take k).all p = true) (hx : l[k]? = some x) (hp : p x = true) : (l.take (k + 1)).all p = true := by
  rw [take_at hx, List.all_append, h]; simp [hp]
theorem all_not {l : List Nd} {k : Nat} {x : Nd} {p : Nd → Bool} (hx : l[k]? = some x) (hp : p x = false) : l.all p = false := by
  rw [← Bool.not_eq_true, List.all_eq_true]
  intro h; have := h x (List.mem_of_getElem? hx); rw [hp] at this; cases this
set_option maxHeartbeats 4000000 in
set_option maxRecDepth 100000 in
theorem l28Avoids_c (g : Nat) (sy st : Int) (A : Option Addr) (n cp : Nat) (rs : List Rule3) (gl : Nat) (sl : Int) (Al : Option Addr) (nl cl : Nat) (xl : List Int) (gr : Nat) (sr : Int) (Ar : Option Addr) (nr cr : Nat) (xr : List Int) (w : World)
    (h : MachP w g sy st A n cp rs) (hl : DfaP w gl sl Al nl cl xl) (hr : DfaP w gr sr Ar nr cr xr) (hm : machB sy st rs = true) (hdl : DfaOk sl sy xl) (hdr : DfaOk sr sy xr) :
    Calls Try.prog 74 #[.pointer (some ⟨g, 0, none⟩), .pointer (some ⟨gl, 0, none⟩), .pointer (some ⟨gr, 0, none⟩)] w fun e w' => e = .returned (.bool (avoidsB rs sy xl xr)) ∧ Below w.heap.size w w' := by
  have hsy := (machB_bd hm).1; have hst := (machB_bd hm).2.1
  obtain ⟨_, _, f3⟩ := size_bd hdl.stt hst hsy hdr.stt
  obtain ⟨kz, hkz⟩ := Int.eq_ofNat_of_zero_le (show 0 ≤ sl * st * sy * sr by omega)
  have hc := l28Closure_c g sy st A n cp rs gl sl Al nl cl xl gr sr Ar nr cr xr kz w h hl hr hm hdl hdr hkz.symm
  have HA := Lib.hid (sortO_all (kz := kz) hm hdl hdr hkz.symm)
  have HK := Lib.hid (sortO_ok (kz := kz) hm hdl hdr hkz.symm)
  obtain ⟨o, ho⟩ : ∃ o, clR rs sy xl xr = o := ⟨_, rfl⟩
  obtain ⟨R, hR⟩ : ∃ R, avoidsB rs sy xl xr = R := ⟨_, rfl⟩
  obtain ⟨S, hS⟩ : ∃ S, sortO st sy sr kz o = S := ⟨_, rfl⟩
  rw [ho, hR, hS] at HA
  rw [ho, hS] at HK
  rw [hR]
  rw [ho] at hc
  have HC := Lib.hid hc; have H := Lib.hid h; have HM := Lib.hid hm; have HS := Lib.hid hS
  clear hc h hl hr hm hdl hdr hkz ho hR f3 hS
  go_enter Try.func74, Try.ntmps74
  go_wp2_with fail
  refine HC.out.mono ?_
  rintro e w1 ⟨A2, n2, c2, its, rfl, hw, hn2, h4, hx, hb⟩
  have W1 := Lib.hid hw.rd; have X1 := Lib.hid (show its.map It.xs = S.map ndL by rw [hx, HS.out]); have H4 := Lib.hid h4
  have E1 := Lib.hid hb
  have HN := Lib.hid (show S.length = n2 by have h1 := RdII.len hw.rd; have h2 := congrArg List.length X1.out; simp only [List.length_map] at h2; omega)
  have hz1 := hb.size
  clear hw hx h4 hb
  obtain ⟨oo, hoo⟩ : ∃ oo, o.isSome = oo := ⟨_, rfl⟩
  rw [hoo] at HA ⊢
  clear hoo
  go_wp2_with fail
  go_loopw [9] (fun iv wr => ∃ k : Nat, k ≤ n2 ∧ iv = .int .i64 k ∧ Hid ((S.take k).all (okN rs sy) = true) ∧ Below w1.heap.size w1 wr) (fun iv _ => n2 - (intOf iv).toNat)
  case atStart => exact ⟨0, by omega, rfl, rfl, below_size⟩
  case round =>
    obtain ⟨k, hk, rfl, hall, hb⟩ := hrel
    have HB := Lib.hid hb
    have hwz := hb.size
    by_cases hlt : k < n2
    · obtain ⟨a2, t, rfl, ha2, ht, hc2, hrt⟩ := RdII.at_ (W1.out.below hb) hlt
      obtain ⟨x, hxk⟩ : ∃ x, S[k]? = some x := ⟨_, List.getElem?_eq_getElem (by have := HN.out; omega)⟩
      have hxs := row_of X1.out ht hxk
      have hn4 := H4.out t (List.mem_of_getElem? ht)
      have hrx : RdI wr t.A 4 (ndL x) := by have := hrt.head; rw [← hxs, ← hn4]; exact this
      rw [hn4] at hc2
      have hok := HK.out x (List.mem_of_getElem? hxk)
      have HX := Lib.hid hxk
      obtain ⟨a, b, c, d⟩ := x
      obtain ⟨ad, ead, _, c0, c1, c2', c3⟩ := rd4 hrx
      rw [ead] at hc2
      obtain ⟨ir, hir, hirl, hirv, hp0, hp1⟩ := rule_read HM.out hok.b hok.c
      simp only at hir hirv hp0 hp1
      have hcc := hok.c
      simp only at hcc
      have hlen := H.out.rd.len
      have M2 := H.out.below (below_chain E1.out hz1 hb)
      obtain ⟨ar, xv, rfl, _, hxv, r0, r1, r2⟩ := M2.rd.at_ (k := ir) (by omega)
      rw [hirv] at hxv; injection hxv with hxv
      obtain ⟨p, q, t'⟩ := xv
      have v1 : IntKind.i64.wrap (b * sy) = b * sy := IntWalk.i64_in _ (by omega)
      have v2 : IntKind.i64.wrap (b * sy + c) = (ir : Int) := (IntWalk.i64_in _ (by omega)).trans hir
      have hirn : ir < n := by omega
      have m0 := M2.c0; have m2 := M2.c2
      simp only at r0 r1 r2
      have y0 := Ext.cell m0; have y1 := Ext.cell m2; have y2 := Ext.cell hc2; have y3 := Ext.cell c1; have y4 := Ext.cell c2'; have y5 := Ext.cell r0; have y6 := Ext.cell r1; have y7 := Ext.cell r2
      have HOKX := Lib.hid (show okN rs sy (a, b, c, d) = !decide ((p, q, t') = noneR) by rw [okN, hxv])
      clear hcc hb hxk hxs hn4 hrx hrt hok ht hirv hxv hir hlen hp0 hp1 M2 c0 c1 c2' c3 r0 r1 r2 m0 m2 hc2 ead
      rcases rule_cases p q t' with ⟨hnon, rfl, rfl, rfl⟩ | ⟨hnon, hne'⟩
      · have HF := Lib.hid (show R = false by
          rw [← HA.out, all_not HX.out (by rw [HOKX.out, hnon]; rfl)]; rfl)
        clear hnon
        go_wp2_with fail
        refine Mix.wp_region_mix [0, 0, 0, 3, 0, 0, 0, 3, 0, 3, 0, 0, 0, 3, 0, 0, 0, 0, 3, 0, 3, 0, 0, 3, 1, 0] (fun w' => ∃ x : Ext wr, w' = x.w) (by kernel_rfl) (by kernel_rfl) (InExt.drew _) ?_
        repeat (first | (refine Mix.wpMix_read (by rfl) ?_; go_big_quiet_step (fail); refine wpQuiet_nil ?_) | (refine Mix.wpMix_pure (by rfl) ?_; go_big_quiet_step (fail); refine wpQuiet_nil ?_))
        refine Mix.wpMix_chg (by rfl) (fun K hK => ?_)
        go_wp2_with fail
        refine (l05None_c _).mono ?_
        rintro e w3 ⟨rfl, hb⟩
        have em := below_of_drew hb
        go_wp2_with fail
        refine hK _ _ ⟨⟨_, em⟩, rfl⟩ ?_
        clear hK K
        repeat (first | (refine Mix.wpMix_read (by rfl) ?_; go_big_quiet_step (fail); refine wpQuiet_nil ?_) | (refine Mix.wpMix_pure (by rfl) ?_; go_big_quiet_step (fail); refine wpQuiet_nil ?_))
        (refine Mix.wpMix_nil ?_; try simp only [Exit.then])
        go_wp2_with fail
        go_ret
        exact ⟨by rw [HF.out]; rfl, below_chain (below_chain E1.out hz1 HB.out) (by omega) em⟩
      · have HT := Lib.hid (take_all_next hall.out HX.out (by rw [HOKX.out, decide_eq_false hnon]; rfl))
        have hne2 := rule_ne p q t' hne'
        clear hnon hne'
        go_wp2_with fail
        refine Mix.wp_region_mix [0, 0, 0, 3, 0, 0, 0, 3, 0, 3, 0, 0, 0, 3, 0, 0, 0, 0, 3, 0, 3, 0, 0, 3, 1, 0] (fun w' => ∃ x : Ext wr, w' = x.w) (by kernel_rfl) (by kernel_rfl) (InExt.drew _) ?_
        repeat (first | (refine Mix.wpMix_read (by rfl) ?_; go_big_quiet_step (fail); refine wpQuiet_nil ?_) | (refine Mix.wpMix_pure (by rfl) ?_; go_big_quiet_step (fail); refine wpQuiet_nil ?_))
        refine Mix.wpMix_chg (by rfl) (fun K hK => ?_)
        go_wp2_with fail
        refine (l05None_c _).mono ?_
        rintro e w3 ⟨rfl, hb⟩
        have em := below_of_drew hb
        go_wp2_with fail
        refine hK _ _ ⟨⟨_, em⟩, rfl⟩ ?_
        clear hK K
        repeat (first | (refine Mix.wpMix_read (by rfl) ?_; go_big_quiet_step (fail); refine wpQuiet_nil ?_) | (refine Mix.wpMix_pure (by rfl) ?_; go_big_quiet_step (fail); refine wpQuiet_nil ?_))
        (refine Mix.wpMix_nil ?_; try simp only [Exit.then])
        clear hne2 y0 y1 y2 y3 y4 y5 y6 y7
        go_wp2_with fail
        go_roundw
        case rel => exact ⟨k + 1, by omega, by go_num, HT.out, below_chain HB.out hwz em⟩
        case measure => simp [intOf]; omega
    · have HF := Lib.hid (show R = oo by
        have := hall.out
        rw [List.take_of_length_le (by rw [HN.out]; omega)] at this
        rw [← HA.out, this]; rfl)
      clear hb
      go_wp2_with fail
      go_ret
      exact ⟨by rw [HF.out]; rfl, below_chain E1.out hz1 HB.out⟩
def avR (sy st : Int) (rs : List Rule3) (sl : Int) (xl : List Int) (sr : Int) (xr : List Int) : Bool := readyB sy st rs sl xl sr xr && avoidsB rs sy xl xr
set_option maxHeartbeats 2000000 in
theorem sAvoidsHalting_c (sy st : Int) (A : Option Addr) (n cp : Nat) (rs : List Rule3) (sl : Int) (Al : Option Addr) (nl cl : Nat) (xl : List Int) (sr : Int) (Ar : Option Addr) (nr cr : Nat) (xr : List Int) (w : World)
    (h : RdS w [sgX enc3 3 A n rs]) (h' : RdI w Al nl xl) (h'' : RdI w Ar nr xr) (hn : n ≤ 1000000000) (hn' : nl ≤ 1000000000) (hn'' : nr ≤ 1000000000) :
    Calls Try.prog 34 #[.agg #[.int .i64 sy, .int .i64 st, .slice A n cp], .agg #[.int .i64 sl, .slice Al nl cl], .agg #[.int .i64 sr, .slice Ar nr cr]] w fun e w' => e = .returned (.bool (avR sy st rs sl xl sr xr)) ∧ Below w.heap.size w w' := by
  replace h : Rd3 w A n rs := h.head
  obtain ⟨w0, hw0⟩ : ∃ w0, ((w.alloc (.cells #[i64 sy, i64 st, .slice A n cp] 32)).alloc (.cells #[i64 sl, .slice Al nl cl] 61)).alloc (.cells #[i64 sr, .slice Ar nr cr] 61) = w0 := ⟨_, rfl⟩
  obtain ⟨b0, b1, b2⟩ := boxes3 w #[i64 sy, i64 st, .slice A n cp] #[i64 sl, .slice Al nl cl] #[i64 sr, .slice Ar nr cr] 32 61 61
  rw [hw0] at b0 b1 b2
  have B0 := Lib.hid (show Below w.heap.size w w0 by rw [← hw0]; exact ((below_size.alloc (Nat.le_refl _) _).alloc (by simp) _).alloc (by simp; omega) _)
  have M0 := Lib.hid (show MachP w0 w.heap.size sy st A n cp rs from ⟨b0.cell 0, b0.cell 1, b0.cell 2, h.below B0.out⟩)
  have L0 := Lib.hid (show DfaP w0 (w.heap.size + 1) sl Al nl cl xl from ⟨b1.cell 0, b1.cell 1, h'.below B0.out⟩)
  have R0 := Lib.hid (show DfaP w0 (w.heap.size + 1 + 1) sr Ar nr cr xr from ⟨b2.cell 0, b2.cell 1, h''.below B0.out⟩)
  have hz0 := B0.out.size
  obtain ⟨q, hq⟩ : ∃ q, readyB sy st rs sl xl sr xr = q := ⟨_, rfl⟩
  have HQ := Lib.hid hq
  obtain ⟨R, hR⟩ : ∃ R, avR sy st rs sl xl sr xr = R := ⟨_, rfl⟩
  have HR := Lib.hid (show R = (q && avoidsB rs sy xl xr) by rw [← hR, avR, hq])
  rw [hR]
  clear h h' h'' hR b0 b1 b2
  go_enter Try.func34, Try.ntmps34
  go_wp2_with fail
  clear hw0
  refine (l28Ready_c _ sy st A n cp rs _ sl Al nl cl xl _ sr Ar nr cr xr q _ (by exact M0.out) (by exact L0.out) (by exact R0.out) hn hn' hn'' hq).mono ?_
  rintro e w1 ⟨rfl, hb⟩
  have E1 := Lib.hid hb
  clear hb hq
  cases q
  · go_wp2_with fail
    go_ret
    exact ⟨by rw [HR.out]; rfl, below_chain B0.out hz0 E1.out⟩
  · obtain ⟨hm, hdl, hdr⟩ := readyB_parts HQ.out
    have hc := l28Avoids_c _ sy st A n cp rs _ sl Al nl cl xl _ sr Ar nr cr xr w1 (M0.out.below E1.out) (L0.out.below E1.out) (R0.out.below E1.out) hm hdl hdr
    have HC := Lib.hid hc
    clear hc hm hdl hdr
    go_wp2_with fail
    refine HC.out.mono ?_
    rintro e w2 ⟨rfl, hb⟩
    have E2 := Lib.hid (below_chain (below_chain B0.out hz0 E1.out) (by have := E1.out.size; omega) hb)
    obtain ⟨u, hu⟩ : ∃ u, avoidsB rs sy xl xr = u := ⟨_, rfl⟩
    rw [hu] at HR ⊢
    clear hb hu
    go_wp2_with fail
    go_ret
    exact ⟨by rw [HR.out]; rfl, E2.out⟩
end Go.Proofs.Ytfahdgmlhinabaa
