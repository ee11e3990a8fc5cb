/-
  Contracts of chapter 28 (automata): the program's closure; AvoidsHalting.
-/
import Derived.Test.YtfahdgmlhinabaaC28t
namespace Go.Proofs.Ytfahdgmlhinabaa
open Go.RowKit

set_option maxHeartbeats 8000000 in
set_option maxRecDepth 100000 in
theorem successors_c (B gm g5 g2 : Nat) (l : List Nd) (sy st : Int) (A : Option Addr) (n cp : Nat) (rs : List Rule3) (sl : Int) (Al : Option Addr) (nl cl : Nat) (xl : List Int) (sr : Int) (Ar : Option Addr) (nr cr : Nat) (xr : List Int) (y : Nd) (w : World)
    (h : FdS w B gm g5 g2 l) (hl : l.length ≤ 40000) (hA : RdU w B A (n * 3) (rs.flatMap enc3)) (hxl : RdU w B Al nl (xl.map i64)) (hxr : RdU w B Ar nr (xr.map i64)) (hm : machB sy st rs = true) (hdl : DfaOk sl sy xl) (hdr : DfaOk sr sy xr) (hok : NdOk sl st sy sr y) :
    Calls Try.prog 132 #[autV sy st A n cp sl Al nl cl sr Ar nr cr, key4 y, .func (.func 131) #[] #[.pointer (some ⟨g5, 0, none⟩), .pointer (some ⟨g2, 0, none⟩)]] w
      fun e w' => e = .returned (.bool (okN rs sy y)) ∧ FdS w' B gm g5 g2 ((stepsN rs sy xl xr y).foldl addN l) ∧ FK B g2 w w' := by
  obtain ⟨a, b, c, d⟩ := y
  have ha := hok.a; have hb := hok.b; have hc := hok.c; have hd := hok.d
  simp only at ha hb hc hd
  obtain ⟨ir, hir, hirl, hirv, hp0, hp1⟩ := rule_read hm hb hc
  have hsy := (machB_bd hm).1
  have hlen : rs.length = n := by have := hA.1.1; rw [flatX_len enc3 3 enc3_len] at this; omega
  have hrd : Rd3 w A n rs := hA.1
  obtain ⟨w0, hw0⟩ : ∃ w0, ((w.alloc (.cells #[.int .i64 sy, .int .i64 st, .slice A n cp, .int .i64 sl, .slice Al nl cl, .int .i64 sr, .slice Ar nr cr] 112)).alloc (.cells #[.int .i64 a, .int .i64 b, .int .i64 c, .int .i64 d] 129)).alloc (.cells #[.func (.func 131) #[] #[.pointer (some ⟨g5, 0, none⟩), .pointer (some ⟨g2, 0, none⟩)]] 171) = w0 := ⟨_, rfl⟩
  obtain ⟨b0, b1, b2⟩ := boxes3 w #[.int .i64 sy, .int .i64 st, .slice A n cp, .int .i64 sl, .slice Al nl cl, .int .i64 sr, .slice Ar nr cr] #[.int .i64 a, .int .i64 b, .int .i64 c, .int .i64 d] #[.func (.func 131) #[] #[.pointer (some ⟨g5, 0, none⟩), .pointer (some ⟨g2, 0, none⟩)]] 112 129 171
  rw [hw0] at b0 b1 b2
  have B0 := Lib.hid (show Below w.heap.size w w0 by rw [← hw0]; exact ((below_size.alloc (Nat.le_refl _) _).alloc (by simp) _).alloc (by simp; omega) _)
  obtain ⟨ar, xv, rfl, _, hxv, r0, r1, r2⟩ := (show Rd3 w0 A n rs from hrd.below B0.out).at_ (k := ir) (by omega)
  rw [hirv] at hxv; injection hxv with hxv
  obtain ⟨p, q, t⟩ := xv
  have HN := Lib.hid (show (p, q, t) ≠ noneR → (0 ≤ p ∧ p < sy) ∧ (q = 1 ∨ q = -1) ∧ (0 ≤ t ∧ t < st) by
    intro hne
    have h1 := mach_rules hm hb hc (by rw [hxv]; exact hne)
    rw [hxv] at h1; exact h1)
  have HO := Lib.hid (show okN rs sy (a, b, c, d) = !decide ((p, q, t) = noneR) by rw [okN, hxv])
  obtain ⟨L, hL⟩ : ∃ L, (stepsN rs sy xl xr (a, b, c, d)).foldl addN l = L := ⟨_, rfl⟩
  have HR := Lib.hid (show (stepsR sy xl xr (p, q, t) (a, b, c, d)).foldl addN l = L by rw [← hL, stepsN, hxv])
  obtain ⟨oo, hoo⟩ : ∃ oo, okN rs sy (a, b, c, d) = oo := ⟨_, rfl⟩
  rw [hoo] at HO
  rw [hL, hoo]
  have v1 : IntKind.i64.wrap (b * sy) = b * sy := IntWalk.i64_in _ (by omega)
  have v2 : IntKind.i64.wrap (b * sy + c) = (ir : Int) := (IntWalk.i64_in _ (by omega)).trans hir
  have v1' : wrap64 (b * sy) = b * sy := by unfold wrap64; omega
  have v2' : wrap64 (b * sy + c) = (ir : Int) := by unfold wrap64; omega
  have hirn : ir < n := by omega
  have hBw : B ≤ w.heap.size ∧ g2 < w.heap.size := by have := h.hB; have := h.lt; omega
  have hz0 : w0.heap.size = w.heap.size + 1 + 1 + 1 := by rw [← hw0]; simp
  have F0 := Lib.hid (h.keep B0.out)
  have HXL := Lib.hid (hxl.below B0.out); have HXR := Lib.hid (hxr.below B0.out)
  have HDL := Lib.hid hdl; have HDR := Lib.hid hdr; have HA := Lib.hid ha; have HD := Lib.hid hd
  have x0 := b0.cell 0; have x2 := b0.cell 2; have y1 := b1.cell 1; have y2 := b1.cell 2
  simp at x0 x2 y1 y2
  simp only at r0 r1 r2
  have X0 := Lib.hid b0; have Y0 := Lib.hid b1; have V0 := Lib.hid b2
  have HZ0 := Lib.hid hz0
  have hz0' : w.heap.size + 1 + 1 + 1 ≤ w0.heap.size := by omega
  clear h hA hxl hxr hm hdl hdr hok hirv hxv hir hlen hrd ha hb hc hd hp0 hp1 b0 b1 b2 hL hoo hz0
  unfold autV key4
  go_enter Try.func132, Try.ntmps132
  go_wp2_with fail
  obtain ⟨w1, hw1⟩ : ∃ w1, w0.alloc (.cells #[i64 p, i64 q, i64 t] 142) = w1 := ⟨_, rfl⟩
  rw [hw1]
  have E1 := Lib.hid (show Below w0.heap.size w0 w1 by rw [← hw1]; exact below_size.alloc (Nat.le_refl _) _)
  have R1 := Lib.hid (show Blk w1 w0.heap.size 142 #[i64 p, i64 q, i64 t] by rw [← hw1]; exact Blk.new _ _ _)
  clear hw0 hw1 x0 x2 y1 y2 r0 r1 r2 v1 v2 v1' v2'
  refine (isRule_c _ _ _ _).mono ?_
  rintro e w2 ⟨rfl, hb⟩
  have E2 := Lib.hid (below_chain E1.out E1.out.size hb)
  have R2 := Lib.hid (R1.out.keep hb)
  have X2 := Lib.hid (X0.out.keep E2.out); have Y2 := Lib.hid (Y0.out.keep E2.out); have V2 := Lib.hid (V0.out.keep E2.out); have F2 := Lib.hid (F0.out.keep E2.out)
  have BW := Lib.hid (below_chain B0.out B0.out.size E2.out)
  have hz2 := hb.size
  have hz1 := E1.out.size
  clear hb
  obtain ⟨o, ho⟩ : ∃ o, decide ((p, q, t) = noneR) = o := ⟨_, rfl⟩
  rw [ho]
  have q0 := R2.out.cell 0; have q1 := R2.out.cell 1
  simp at q0 q1
  cases o
  rotate_left
  · have HE := Lib.hid (show oo = false by rw [HO.out, ho]; rfl)
    have HF := Lib.hid (show L = l by rw [← HR.out, stepsR, if_pos (of_decide_eq_true ho)]; rfl)
    clear ho
    go_wp2_with fail
    go_ret
    exact ⟨by rw [HE.out]; rfl, by rw [HF.out]; exact F2.out, FK.of BW.out hBw.1⟩
  have hnon := of_decide_eq_false ho
  obtain ⟨hp, hq, ht⟩ := HN.out hnon
  have HE := Lib.hid (show oo = true by rw [HO.out, ho]; rfl)
  have HP := Lib.hid hp
  clear ho hp ht HN
  have xa := X2.out.cell 3; have xb := X2.out.cell 4; have xc := X2.out.cell 5; have xd := X2.out.cell 6
  have ya := Y2.out.cell 0; have yd := Y2.out.cell 3
  simp at xa xb xc xd ya yd
  have HSY := Lib.hid hsy
  rcases hq with rfl | rfl
  · obtain ⟨iu, hiu, hiul, hiuv, hu0, hu1, hul⟩ := next_read HDL.out HA.out HP.out
    obtain ⟨u, hu⟩ : ∃ u, nextOf xl (a * sy + p) = u := ⟨_, rfl⟩
    have HF := Lib.hid (show ((orig sy d 0 xr).map (fun p => (u, t, p.2, p.1))).foldl addN l = L by rw [← HR.out, stepsR, if_neg hnon, if_pos rfl, ← hu])
    have hxn : xl.length = nl := by have := HXL.out.1.1; simpa using this
    have hon : xr.length = nr := by have := HXR.out.1.1; simpa using this
    have hob : nr ≤ 120 := by have h1 := HDR.out.len; have h2 := mul_bd HDR.out.sy HDR.out.stt; omega
    have HT := Lib.hid (dfaTo_c sl Al nl cl xl a p sy w2 (show RdI w2 Al nl xl from HXL.out.1.below E2.out) hu0 (by omega) (by omega) (by omega) (by omega))
    rw [hu] at HT
    clear hiu hiul hiuv hu0 hu1 hul hu hnon HR hxn hon
    go_wp2_with fail
    refine HT.out.mono ?_
    rintro e w3 ⟨rfl, hb⟩
    obtain ⟨w4, hw4⟩ : ∃ w4, w3.alloc (.cells #[i64 u] 2) = w4 := ⟨_, rfl⟩
    have E4 := Lib.hid (show Below w2.heap.size w2 w4 by rw [← hw4]; exact hb.alloc hb.size _)
    have N4 := Lib.hid (show Blk w4 w3.heap.size 2 #[i64 u] by rw [← hw4]; exact Blk.new _ _ _)
    have X4 := Lib.hid (X2.out.keep E4.out); have Y4 := Lib.hid (Y2.out.keep E4.out); have V4 := Lib.hid (V2.out.keep E4.out); have F4 := Lib.hid (F2.out.keep E4.out); have R4 := Lib.hid (R2.out.keep E4.out)
    have B4 := Lib.hid (below_chain BW.out BW.out.size E4.out)
    have XO := Lib.hid ((HXR.out.below E2.out).below E4.out)
    have hz3 := hb.size
    clear hb xa xb xc xd ya yd q0 q1 HT
    have xa := X4.out.cell 3; have xb := X4.out.cell 4; have xc := X4.out.cell 5; have xd := X4.out.cell 6
    have ya := Y4.out.cell 0; have yd := Y4.out.cell 3
    simp at xa xb xc xd ya yd
    have HC := Lib.hid (origins1_c B gm g5 g2 (w.heap.size + 1 + 1) w3.heap.size w0.heap.size l u p 1 t d sy sr Ar nr cr xr w4 F4.out (by omega) V4.out N4.out R4.out (by omega) XO.out (by omega) HSY.out)
    rw [HF.out] at HC
    go_wp2_with fail
    refine HC.out.mono ?_
    rintro e w5 ⟨rfl, hf, hk⟩
    have HF5 := Lib.hid hf; have HK5 := Lib.hid ((FK.of (g2 := g2) B4.out hBw.1).trans hk)
    clear hf hk HC hw4 xa xb xc xd ya yd
    go_wp2_with fail
    go_ret
    exact ⟨by rw [HE.out]; rfl, HF5.out, HK5.out⟩
  · obtain ⟨iu, hiu, hiul, hiuv, hu0, hu1, hul⟩ := next_read HDR.out HD.out HP.out
    obtain ⟨u, hu⟩ : ∃ u, nextOf xr (d * sy + p) = u := ⟨_, rfl⟩
    have HF := Lib.hid (show ((orig sy a 0 xl).map (fun p => (p.1, t, p.2, u))).foldl addN l = L by rw [← HR.out, stepsR, if_neg hnon, if_neg (show ¬ (-1 : Int) = 1 by decide), ← hu])
    have hxn : xr.length = nr := by have := HXR.out.1.1; simpa using this
    have hon : xl.length = nl := by have := HXL.out.1.1; simpa using this
    have hob : nl ≤ 120 := by have h1 := HDL.out.len; have h2 := mul_bd HDL.out.sy HDL.out.stt; omega
    have HT := Lib.hid (dfaTo_c sr Ar nr cr xr d p sy w2 (show RdI w2 Ar nr xr from HXR.out.1.below E2.out) hu0 (by omega) (by omega) (by omega) (by omega))
    rw [hu] at HT
    clear hiu hiul hiuv hu0 hu1 hul hu hnon HR hxn hon
    go_wp2_with fail
    refine HT.out.mono ?_
    rintro e w3 ⟨rfl, hb⟩
    obtain ⟨w4, hw4⟩ : ∃ w4, w3.alloc (.cells #[i64 u] 2) = w4 := ⟨_, rfl⟩
    have E4 := Lib.hid (show Below w2.heap.size w2 w4 by rw [← hw4]; exact hb.alloc hb.size _)
    have N4 := Lib.hid (show Blk w4 w3.heap.size 2 #[i64 u] by rw [← hw4]; exact Blk.new _ _ _)
    have X4 := Lib.hid (X2.out.keep E4.out); have Y4 := Lib.hid (Y2.out.keep E4.out); have V4 := Lib.hid (V2.out.keep E4.out); have F4 := Lib.hid (F2.out.keep E4.out); have R4 := Lib.hid (R2.out.keep E4.out)
    have B4 := Lib.hid (below_chain BW.out BW.out.size E4.out)
    have XO := Lib.hid ((HXL.out.below E2.out).below E4.out)
    have hz3 := hb.size
    clear hb xa xb xc xd ya yd q0 q1 HT
    have xa := X4.out.cell 3; have xb := X4.out.cell 4; have xc := X4.out.cell 5; have xd := X4.out.cell 6
    have ya := Y4.out.cell 0; have yd := Y4.out.cell 3
    simp at xa xb xc xd ya yd
    have HC := Lib.hid (origins2_c B gm g5 g2 (w.heap.size + 1 + 1) w3.heap.size w0.heap.size l u p (-1) t a sy sl Al nl cl xl w4 F4.out (by omega) V4.out N4.out R4.out (by omega) XO.out (by omega) HSY.out)
    rw [HF.out] at HC
    go_wp2_with fail
    refine HC.out.mono ?_
    rintro e w5 ⟨rfl, hf, hk⟩
    have HF5 := Lib.hid hf; have HK5 := Lib.hid ((FK.of (g2 := g2) B4.out hBw.1).trans hk)
    clear hf hk HC hw4 xa xb xc xd ya yd
    go_wp2_with fail
    go_ret
    exact ⟨by rw [HE.out]; rfl, HF5.out, HK5.out⟩
def flagO (rs : List Rule3) (sy : Int) (o : Option (List Nd)) : Bool := match o with | none => false | some l => l.all (okN rs sy)
/-- what the program's closure gives back -/
def CiOut (rs : List Rule3) (sy : Int) (o : Option (List Nd)) (w : World) (e : Ending) (w' : World) : Prop :=
  ∃ A n c l, e = .returned (.tuple #[.slice A n c, .bool (flagO rs sy o), .bool o.isSome]) ∧ (l = o.getD []) ∧ n = l.length ∧ Rd w' A (n * 4) (l.flatMap enc4) ∧ Below w.heap.size w w'
theorem enc4_at {l : List Nd} {k : Nat} {y : Nd} (h : l[k]? = some y) : (l.flatMap enc4)[k * 4]? = some (.int .i64 y.1) ∧ (l.flatMap enc4)[k * 4 + 1]? = some (.int .i64 y.2.1) ∧ (l.flatMap enc4)[k * 4 + 2]? = some (.int .i64 y.2.2.1) ∧ (l.flatMap enc4)[k * 4 + 3]? = some (.int .i64 y.2.2.2) := by
  have h0 := flatX_at enc4 4 enc4_len l k 0 y h (by omega)
  have h1 := flatX_at enc4 4 enc4_len l k 1 y h (by omega)
  have h2 := flatX_at enc4 4 enc4_len l k 2 y h (by omega)
  have h3 := flatX_at enc4 4 enc4_len l k 3 y h (by omega)
  exact ⟨h0, h1, h2, h3⟩
set_option maxHeartbeats 8000000 in
set_option maxRecDepth 100000 in
theorem closure_c (sy st : Int) (A : Option Addr) (n cp : Nat) (rs : List Rule3) (sl : Int) (Al : Option Addr) (nl cl : Nat) (xl : List Int) (sr : Int) (Ar : Option Addr) (nr cr : Nat) (xr : List Int) (w : World)
    (hA : Rd3 w A n rs) (hxl : RdI w Al nl xl) (hxr : RdI w Ar nr xr) (hm : machB sy st rs = true) (hdl : DfaOk sl sy xl) (hdr : DfaOk sr sy xr) :
    Calls Try.prog 87 #[autV sy st A n cp sl Al nl cl sr Ar nr cr] w (CiOut rs sy (clR rs sy xl xr) w) := by
  have HA := Lib.hid (show RdU w w.heap.size A (n * 3) (rs.flatMap enc3) from RdU.mk' hA)
  have HXL := Lib.hid (show RdU w w.heap.size Al nl (xl.map i64) from RdU.mk' hxl)
  have HXR := Lib.hid (show RdU w w.heap.size Ar nr (xr.map i64) from RdU.mk' hxr)
  have HM := Lib.hid hm; have HDL := Lib.hid hdl; have HDR := Lib.hid hdr
  have hsy := (machB_bd hm).1; have hst := (machB_bd hm).2.1; have hsl := hdl.stt; have hsr := hdr.stt
  have OK0 := Lib.hid (show NdOk sl st sy sr (0, 0, 0, 0) from ⟨⟨Int.le_refl 0, by show (0 : Int) < sl; omega⟩, ⟨Int.le_refl 0, by show (0 : Int) < st; omega⟩, ⟨Int.le_refl 0, by show (0 : Int) < sy; omega⟩, ⟨Int.le_refl 0, by show (0 : Int) < sr; omega⟩⟩)
  obtain ⟨o, ho⟩ : ∃ o, clR rs sy xl xr = o := ⟨_, rfl⟩
  have HO := Lib.hid (show clGo rs sy xl xr 3001 0 [(0, 0, 0, 0)] = o from ho)
  rw [ho]
  have hmm := @run_makeMap Try.prog
  clear hA hxl hxr hm hdl hdr ho
  obtain ⟨w0, hw0⟩ : ∃ w0, (((w.alloc (.cells #[.int .i64 sy, .int .i64 st, .slice A n cp, .int .i64 sl, .slice Al nl cl, .int .i64 sr, .slice Ar nr cr] 112)).alloc (.cells #[.slice none 0 0] 124)).alloc (.map #[] 0)).alloc (.cells #[.map (some (w.heap.size + 1 + 1))] 170) = w0 := ⟨_, rfl⟩
  have B0 := Lib.hid (show Below w.heap.size w w0 by rw [← hw0]; exact (((below_size.alloc (Nat.le_refl _) _).alloc (by simp) _).alloc (by simp; omega) _).alloc (by simp; omega) _)
  have X0 := Lib.hid (show Blk w0 w.heap.size 112 #[.int .i64 sy, .int .i64 st, .slice A n cp, .int .i64 sl, .slice Al nl cl, .int .i64 sr, .slice Ar nr cr] by rw [← hw0]; exact (((Blk.new w _ _).alloc _).alloc _).alloc _)
  have F0 := Lib.hid (show FdS w0 w.heap.size (w.heap.size + 1 + 1) (w.heap.size + 1 + 1 + 1) (w.heap.size + 1) [] by
    refine ⟨?_, ?_, ⟨none, 0, ?_, Own.nil⟩, by omega⟩
    · have := (MapAt.new ((w.alloc (.cells #[.int .i64 sy, .int .i64 st, .slice A n cp, .int .i64 sl, .slice Al nl cl, .int .i64 sr, .slice Ar nr cr] 112)).alloc (.cells #[.slice none 0 0] 124)) key4 Value.bool).alloc (.cells #[.map (some (w.heap.size + 1 + 1))] 170)
      simp only [World.size_alloc] at this
      rw [← hw0]; exact this
    · have := Blk.new (((w.alloc (.cells #[.int .i64 sy, .int .i64 st, .slice A n cp, .int .i64 sl, .slice Al nl cl, .int .i64 sr, .slice Ar nr cr] 112)).alloc (.cells #[.slice none 0 0] 124)).alloc (.map #[] 0)) 170 #[.map (some (w.heap.size + 1 + 1))]
      simp only [World.size_alloc] at this
      rw [← hw0]; exact this
    · have := ((Blk.new (w.alloc (.cells #[.int .i64 sy, .int .i64 st, .slice A n cp, .int .i64 sl, .slice Al nl cl, .int .i64 sr, .slice Ar nr cr] 112)) 124 #[.slice none 0 0]).alloc (.map #[] 0)).alloc (.cells #[.map (some (w.heap.size + 1 + 1))] 170)
      simp only [World.size_alloc] at this
      rw [← hw0]; exact this)
  have hz0 := B0.out.size
  have HF := Lib.hid (find_c w.heap.size (w.heap.size + 1 + 1) (w.heap.size + 1 + 1 + 1) (w.heap.size + 1) [] (0, 0, 0, 0) w0 F0.out (by simp))
  unfold autV
  go_enter Try.func87, Try.ntmps87
  go_wp2_with fail
  clear hmm
  refine HF.out.mono ?_
  rintro e w1 ⟨rfl, hf, hk⟩
  have F1 := Lib.hid (show FdS w1 w.heap.size (w.heap.size + 1 + 1) (w.heap.size + 1 + 1 + 1) (w.heap.size + 1) [(0, 0, 0, 0)] from hf)
  have K1 := Lib.hid hk
  clear hf hk hw0 HF
  have HXA := X0
  go_wp2_with fail
  go_loopw [3, 7] (fun rv iv wr => ∃ (k : Nat) (l : List Nd), k ≤ l.length ∧ l.length ≤ 3000 ∧ iv = .int .i64 k ∧ rv = .bool ((l.take k).all (okN rs sy)) ∧ Hid (clGo rs sy xl xr (3001 - k) k l = o) ∧ Hid (∀ y ∈ l, NdOk sl st sy sr y) ∧
    Hid (FdS wr w.heap.size (w.heap.size + 1 + 1) (w.heap.size + 1 + 1 + 1) (w.heap.size + 1) l) ∧ Hid (FK w.heap.size (w.heap.size + 1) w0 wr)) (fun _ iv _ => 3001 - (intOf iv).toNat)
  case atStart => exact ⟨0, [(0, 0, 0, 0)], by simp, by simp, rfl, rfl, HO.out, fun y hy => by rw [List.mem_singleton] at hy; subst hy; exact OK0.out, F1.out, K1.out⟩
  case round =>
    obtain ⟨k, l, hkl, hl3, rfl, rfl, hgo, hok, hF, hfk⟩ := hrel
    obtain ⟨O, oc, hg2, hO⟩ := hF.out.list
    have G2 := Lib.hid hg2; have OO := Lib.hid hO
    have s0 := hg2.cell 0; have f0 := hg2.frozen 0
    simp at s0
    obtain ⟨m, hm⟩ : ∃ m, l.length = m := ⟨_, rfl⟩
    have HM' := Lib.hid hm
    rw [hm] at s0 hkl hl3 G2 OO
    obtain ⟨b, hb⟩ : ∃ b, (l.take k).all (okN rs sy) = b := ⟨_, rfl⟩
    have HBb := Lib.hid hb
    rw [hb]
    clear hg2 hO hm hb
    by_cases hlt : k < m
    · obtain ⟨x, hx⟩ : ∃ x, l[k]? = some x := ⟨_, List.getElem?_eq_getElem (by rw [HM'.out]; exact hlt)⟩
      have HX := Lib.hid hx
      have hxo := hok.out x (List.mem_of_getElem? hx)
      obtain ⟨e0, e1, e2, e3⟩ := enc4_at hx
      obtain ⟨ao, eo, _, _, hco⟩ := OO.out.wrK.2 (by omega)
      have hao := (OO.out.block eo).2.2.1
      obtain ⟨bo, hbo⟩ : ∃ bo, ao.block = bo := ⟨_, rfl⟩
      rw [hbo] at hao
      subst hao; subst eo
      have d0 := (hco.2 _ _ e0).1; have d1 := (hco.2 _ _ e1).1; have d2 := (hco.2 _ _ e2).1; have d3 := (hco.2 _ _ e3).1
      rw [head_add] at d0 d1 d2 d3
      have XR := hfk.out.blk _ _ _ X0.out (by decide) (by omega)
      have p0 := XR.cell 0; have p1 := XR.cell 1; have p2 := XR.cell 2; have p3 := XR.cell 3; have p4 := XR.cell 4; have p5 := XR.cell 5; have p6 := XR.cell 6
      simp at p0 p1 p2 p3 p4 p5 p6
      have z0 := Ext.cell s0; have z1 := Ext.cell d0; have z2 := Ext.cell d1; have z3 := Ext.cell d2; have z4 := Ext.cell d3
      have z5 := Ext.cell p0; have z6 := Ext.cell p1; have z7 := Ext.cell p2; have z8 := Ext.cell p3; have z9 := Ext.cell p4; have z10 := Ext.cell p5; have z11 := Ext.cell p6
      obtain ⟨l', hl'⟩ : ∃ l', (stepsN rs sy xl xr x).foldl addN l = l' := ⟨_, rfl⟩
      obtain ⟨u, hu⟩ : ∃ u, okN rs sy x = u := ⟨_, rfl⟩
      have hsz := hfk.out.size
      have hbB := B0.out.trans hfk.out.below
      have HC := Lib.hid (successors_c w.heap.size (w.heap.size + 1 + 1) (w.heap.size + 1 + 1 + 1) (w.heap.size + 1) l sy st A n cp rs sl Al nl cl xl sr Ar nr cr xr x wr.drew (hF.out.keep (below_drew below_size)) (by rw [HM'.out]; omega)
        (HA.out.lowB (below_drew hbB) (by show _ ≤ wr.heap.size; omega)) (HXL.out.lowB (below_drew hbB) (by show _ ≤ wr.heap.size; omega)) (HXR.out.lowB (below_drew hbB) (by show _ ≤ wr.heap.size; omega)) HM.out HDL.out HDR.out hxo)
      rw [hl', hu] at HC
      have HOK := Lib.hid (show ∀ y ∈ l', NdOk sl st sy sr y by rw [← hl']; exact fold_ok _ (stepsN_ok HM.out HDL.out HDR.out hxo) l hok.out)
      have HL' := Lib.hid hl'
      have HT := Lib.hid (show (l'.take (k + 1)).all (okN rs sy) = (u && b) by
        obtain ⟨t, ht⟩ := fold_pre (stepsN rs sy xl xr x) l
        rw [← hl', ht, take_all (by rw [HM'.out]; omega), take_at hx, List.all_append, HBb.out, ← hu, Bool.and_comm]; simp)
      have HLE := Lib.hid (show m ≤ l'.length by have := (fold_len (stepsN rs sy xl xr x) l).1; rw [hl', HM'.out] at this; exact this)
      clear hx hxo e0 e1 e2 e3 hco hbB hu hl' XR d0 d1 d2 d3 p0 p1 p2 p3 p4 p5 p6
      obtain ⟨xa, xb, xc, xd⟩ := x
      unfold autV key4 at HC
      cases u
      all_goals
        go_wp2_with fail
        refine Mix.wp_region_mix [3, 3, 0, 0, 3, 0, 2, 0, 0, 0, 0] (fun w' => ∃ x : Ext wr, w' = x.w) (by kernel_rfl) (by kernel_rfl) (InExt.drew _) ?_
        repeat (first | (refine Mix.wpMix_read (by rfl) ?_; go_big_quiet_step (fail); refine wpQuiet_nil ?_) | (refine Mix.wpMix_pure (by rfl) ?_; go_big_quiet_step (fail); refine wpQuiet_nil ?_))
        refine Mix.wpMix_tail (by rfl) (fun K hK => ?_)
        go_wp2_with fail
        refine HC.out.mono ?_
        rintro e w' ⟨rfl, hf, hk'⟩
        have F' := Lib.hid hf; have K' := Lib.hid (hfk.out.trans ((FK.of (g2 := w.heap.size + 1) (below_drew below_size) (by omega)).trans hk'))
        clear hf hk' HC z0 z1 z2 z3 z4 z5 z6 z7 z8 z9 z10 z11 s0 f0
        go_wp2_with fail
        refine hK _ _ ?_
        clear hK K
        repeat (first | (refine Mix.wpMix_read (by rfl) ?_; go_big_quiet_step (fail); refine wpQuiet_nil ?_) | (refine Mix.wpMix_pure (by rfl) ?_; go_big_quiet_step (fail); refine wpQuiet_nil ?_))
        (refine Mix.wpMix_nil ?_; try simp only [Exit.then])
        obtain ⟨O', oc', hg2, hO⟩ := F'.out.list
        have G2' := Lib.hid hg2
        have s0 := hg2.cell 0; have f0 := hg2.frozen 0
        simp at s0
        obtain ⟨m', hm'⟩ : ∃ m', l'.length = m' := ⟨_, rfl⟩
        rw [hm'] at s0
        have HM2 := Lib.hid hm'
        have hle : m ≤ m' := by have := HLE.out; omega
        clear hg2 hO hm'
        by_cases hbig : 3000 < m'
        · have HN := Lib.hid (show o = none by rw [← hgo.out, show 3001 - k = (3000 - k) + 1 by omega]; exact clGo_full HX.out (by rw [HL'.out, HM2.out]; exact hbig))
          have kb : decide ((3000 : Int) < (m' : Int)) = true := decide_eq_true (by omega)
          go_wp2_with fail
          refine bodyPost_ret (v := .tuple #[.slice none 0 0, .bool false, .bool false]) (by simp [results, Try.results87, go_sem, s0]) rfl ?_
          rw [HN.out]
          exact ⟨none, 0, 0, [], rfl, rfl, rfl, ⟨rfl, fun h => by omega⟩, (B0.out.trans K'.out.below).setCell (by show _ ≤ w.heap.size + 1; omega) _⟩
        · have HN := Lib.hid (show clGo rs sy xl xr (3001 - (k + 1)) (k + 1) l' = o by
            rw [← hgo.out, show 3001 - k = (3000 - k) + 1 by omega, clGo_on HX.out (by rw [HL'.out, HM2.out]; exact hbig), HL'.out, show 3001 - (k + 1) = 3000 - k by omega])
          have kb : decide ((3000 : Int) < (m' : Int)) = false := decide_eq_false (by omega)
          go_wp2_with fail
          go_roundw
          case rel => exact ⟨k + 1, l', by rw [HM2.out]; omega, by rw [HM2.out]; omega, by go_num, by rw [HT.out]; rfl, HN.out, HOK.out, F'.out, K'.out⟩
          case measure => simp [intOf]; omega
    · have HOL := Lib.hid (show o = some l by rw [← hgo.out, show 3001 - k = (3000 - k) + 1 by omega]; exact clGo_end (by rw [HM'.out]; omega))
      have HBB := Lib.hid (show l.all (okN rs sy) = b by rw [← HBb.out, List.take_of_length_le (by rw [HM'.out]; omega)])
      go_wp2_with fail
      refine bodyPost_ret (v := .tuple #[.slice O m oc, .bool b, .bool true]) (by simp [results, Try.results87, go_sem, s0]) rfl ?_
      rw [HOL.out]
      refine ⟨O, m, oc, l, by rw [show flagO rs sy (some l) = b from HBB.out]; rfl, rfl, HM'.out.symm, (OO.out.far (fun ad ha => OO.out.ne_ G2.out (by decide) ad ha) _).wrK.rd, (B0.out.trans hfk.out.below).setCell (by show _ ≤ w.heap.size + 1; omega) _⟩
set_option maxHeartbeats 2000000 in
theorem avoids_c (sy st : Int) (A : Option Addr) (n cp : Nat) (rs : List Rule3) (sl : Int) (Al : Option Addr) (nl cl : Nat) (xl : List Int) (sr : Int) (Ar : Option Addr) (nr cr : Nat) (xr : List Int) (w : World)
    (hA : Rd3 w A n rs) (hxl : RdI w Al nl xl) (hxr : RdI w Ar nr xr) (hm : machB sy st rs = true) (hdl : DfaOk sl sy xl) (hdr : DfaOk sr sy xr) :
    Calls Try.prog 76 #[autV sy st A n cp sl Al nl cl sr Ar nr cr] w fun e w' => e = .returned (.bool (avoidsB rs sy xl xr)) ∧ Below w.heap.size w w' := by
  obtain ⟨o, ho⟩ : ∃ o, clR rs sy xl xr = o := ⟨_, rfl⟩
  have HC := Lib.hid (closure_c sy st A n cp rs sl Al nl cl xl sr Ar nr cr xr (w.alloc (.cells #[.int .i64 sy, .int .i64 st, .slice A n cp, .int .i64 sl, .slice Al nl cl, .int .i64 sr, .slice Ar nr cr] 112)) (hA.alloc _) (Rd.alloc hxl _) (Rd.alloc hxr _) hm hdl hdr)
  have HE := Lib.hid (show avoidsB rs sy xl xr = ((flagO rs sy o) && o.isSome) by unfold avoidsB; rw [ho]; clear ho HC; cases o <;> simp [flagO])
  rw [ho] at HC
  obtain ⟨R, hR⟩ : ∃ R, avoidsB rs sy xl xr = R := ⟨_, rfl⟩
  rw [hR] at HE
  rw [hR]
  clear hA hxl hxr hm hdl hdr ho hR
  unfold autV at HC
  unfold autV
  go_enter Try.func76, Try.ntmps76
  go_wp2_with fail
  refine HC.out.mono ?_
  rintro e w1 ⟨A2, n2, c2, l, rfl, hl, hn, hr, hb⟩
  have B1 := Lib.hid (up1 hb)
  clear hl hn hr hb HC
  obtain ⟨u, hu⟩ : ∃ u, (flagO rs sy o) = u := ⟨_, rfl⟩
  obtain ⟨v, hv⟩ : ∃ v, o.isSome = v := ⟨_, rfl⟩
  rw [hu, hv] at HE ⊢
  clear hu hv
  cases u
  all_goals
    go_wp2_with fail
    go_ret
    exact ⟨by rw [HE.out]; rfl, B1.out⟩
set_option maxHeartbeats 2000000 in
theorem iAvoidsHalting_c (sy st : Int) (A : Option Addr) (n cp : Nat) (rs : List Rule3) (sl : Int) (Al : Option Addr) (nl cl : Nat) (xl : List Int) (sr : Int) (Ar : Option Addr) (nr cr : Nat) (xr : List Int) (w : World)
    (h : RdS w [sgX enc3 3 A n rs]) (h' : RdI w Al nl xl) (h'' : RdI w Ar nr xr) (hn : n ≤ 1000000000) (hn' : nl ≤ 1000000000) (hn'' : nr ≤ 1000000000) :
    Calls Try.prog 36 #[.agg #[.int .i64 sy, .int .i64 st, .slice A n cp], .agg #[.int .i64 sl, .slice Al nl cl], .agg #[.int .i64 sr, .slice Ar nr cr]] w fun e w' => e = .returned (.bool (avR sy st rs sl xl sr xr)) ∧ Below w.heap.size w w' := by
  replace h : Rd3 w A n rs := h.head
  obtain ⟨w0, hw0⟩ : ∃ w0, ((w.alloc (.cells #[i64 sy, i64 st, .slice A n cp] 32)).alloc (.cells #[i64 sl, .slice Al nl cl] 61)).alloc (.cells #[i64 sr, .slice Ar nr cr] 61) = w0 := ⟨_, rfl⟩
  obtain ⟨b0, b1, b2⟩ := boxes3 w #[i64 sy, i64 st, .slice A n cp] #[i64 sl, .slice Al nl cl] #[i64 sr, .slice Ar nr cr] 32 61 61
  rw [hw0] at b0 b1 b2
  have B0 := Lib.hid (show Below w.heap.size w w0 by rw [← hw0]; exact ((below_size.alloc (Nat.le_refl _) _).alloc (by simp) _).alloc (by simp; omega) _)
  obtain ⟨w1, hw1⟩ : ∃ w1, w0.alloc (.cells #[i64 sy, i64 st, .slice A n cp, i64 sl, .slice Al nl cl, i64 sr, .slice Ar nr cr] 112) = w1 := ⟨_, rfl⟩
  have ex : Below w0.heap.size w0 w1 := by rw [← hw1]; exact below_size.alloc (Nat.le_refl _) _
  have X1 := Lib.hid (show Blk w1 w0.heap.size 112 #[i64 sy, i64 st, .slice A n cp, i64 sl, .slice Al nl cl, i64 sr, .slice Ar nr cr] by rw [← hw1]; exact Blk.new w0 _ _)
  have B1 := Lib.hid (below_chain B0.out B0.out.size ex)
  have HM := Lib.hid (show Rd3 w1 A n rs from Rd.below h B1.out); have HL := Lib.hid (h'.below B1.out); have HRr := Lib.hid (h''.below B1.out)
  obtain ⟨q, hq⟩ : ∃ q, readyB sy st rs sl xl sr xr = q := ⟨_, rfl⟩
  have HQ := Lib.hid hq
  obtain ⟨R, hR⟩ : ∃ R, avR sy st rs sl xl sr xr = R := ⟨_, rfl⟩
  have HR := Lib.hid (show R = (q && avoidsB rs sy xl xr) by rw [← hR, avR, hq])
  rw [hR]
  have p0 := b0.cell 0; have p1 := b0.cell 1; have p2 := b0.cell 2; have q0 := b1.cell 0; have q1 := b1.cell 1; have r0 := b2.cell 0; have r1 := b2.cell 1
  simp at p0 p1 p2 q0 q1 r0 r1
  have x0 := X1.out.cell 0; have x1 := X1.out.cell 1; have x2 := X1.out.cell 2; have x3 := X1.out.cell 3; have x4 := X1.out.cell 4; have x5 := X1.out.cell 5; have x6 := X1.out.cell 6
  simp at x0 x1 x2 x3 x4 x5 x6
  clear h h' h'' hR b0 b1 b2 ex
  have HZ := B0.out.size
  go_enter Try.func36, Try.ntmps36
  go_wp2_with fail
  refine (autValid_c sy st A n cp rs sl Al nl cl xl sr Ar nr cr xr q _ (by exact HM.out) (by exact HL.out) (by exact HRr.out) hn hn' hn'' hq).mono ?_
  rintro e w2 ⟨rfl, hb⟩
  have X2 := Lib.hid (X1.out.keep hb)
  have B2 := Lib.hid (below_chain B1.out B1.out.size hb)
  have HM2 := Lib.hid (HM.out.below hb); have HL2 := Lib.hid (HL.out.below hb); have HR2 := Lib.hid (HRr.out.below hb)
  clear hb hq hw0 hw1 p0 p1 p2 q0 q1 r0 r1 x0 x1 x2 x3 x4 x5 x6
  cases q
  · go_wp2_with fail
    go_ret
    exact ⟨by rw [HR.out]; rfl, B2.out⟩
  · have x0 := X2.out.cell 0; have x1 := X2.out.cell 1; have x2 := X2.out.cell 2; have x3 := X2.out.cell 3; have x4 := X2.out.cell 4; have x5 := X2.out.cell 5; have x6 := X2.out.cell 6
    simp at x0 x1 x2 x3 x4 x5 x6
    obtain ⟨hm, hdl, hdr⟩ := readyB_parts HQ.out
    have HC := Lib.hid (avoids_c sy st A n cp rs sl Al nl cl xl sr Ar nr cr xr w2 HM2.out HL2.out HR2.out hm hdl hdr)
    clear hm hdl hdr
    unfold autV at HC
    go_wp2_with fail
    refine HC.out.mono ?_
    rintro e w3 ⟨rfl, hb⟩
    have B3 := Lib.hid (below_chain B2.out B2.out.size hb)
    obtain ⟨u, hu⟩ : ∃ u, avoidsB rs sy xl xr = u := ⟨_, rfl⟩
    rw [hu] at HR ⊢
    clear hb hu HC
    go_wp2_with fail
    go_ret
    exact ⟨by rw [HR.out]; rfl, B3.out⟩
end Go.Proofs.Ytfahdgmlhinabaa
