/-
  Contracts of chapter 26: all predecessors of a partial configuration, in the program; PredecessorsOf.
-/
import Derived.Test.YtfahdgmlhinabaaC26r
import Derived.Test.YtfahdgmlhinabaaC26f
namespace Go.Proofs.Ytfahdgmlhinabaa
open Go.RowKit

/-- behind 'y, ok := predecessor(..)': y lies in a block of its own -/
def PrCut (o : Option Part) (t : TypeId) (w : World) (pv bv : Value) (wx : World) : Prop :=
  ∃ g s a A n c, pv = .pointer (some ⟨g, 0, none⟩) ∧ bv = .bool o.isSome ∧ Blk wx g t #[i64 s, i64 a, .slice A n c] ∧ w.heap.size ≤ g ∧ (∀ y, o = some y → s = y.1 ∧ a = y.2.1 ∧ n = y.2.2.length ∧ Wr wx w.heap.size wx.heap.size A n (y.2.2.map i64)) ∧ Below w.heap.size w wx
theorem prCut {o : Option Part} {t : TypeId} {w wb : World} {g lo hi : Nat} {s a : Int} {A : Option Addr} {n c : Nat} {v0 v1 v2 : Value} (hb : Blk wb g t #[v0, v1, v2]) (hB : Below w.heap.size w wb) (hg : w.heap.size ≤ g)
    (hy : ∀ y, o = some y → s = y.1 ∧ a = y.2.1 ∧ n = y.2.2.length ∧ Wr wb lo hi A n (y.2.2.map i64)) (hlo : w.heap.size ≤ lo) (hx : g < lo ∨ hi ≤ g) (hhi : hi ≤ wb.heap.size) :
    PrCut o t w (.pointer (some ⟨g, 0, none⟩)) (.bool o.isSome) (((wb.setCell ⟨g, 0, none⟩ (i64 s)).setCell ⟨g, 1, none⟩ (i64 a)).setCell ⟨g, 2, none⟩ (.slice A n c)) := by
  refine ⟨g, s, a, A, n, c, rfl, rfl, fwBox hb _ _ _, hg, fun y h => ?_, ((hB.setCell (by exact hg) _).setCell (by exact hg) _).setCell (by exact hg) _⟩
  obtain ⟨h1, h2, h3, hw⟩ := hy y h
  exact ⟨h1, h2, h3, (((hw.set_far hx _).set_far hx _).set_far hx _).wider hlo (by simp; exact hhi)⟩
set_option maxHeartbeats 8000000 in
set_option maxRecDepth 100000 in
theorem predecessors_c (sy st : Int) (A : Option Addr) (nr cp : Nat) (rs : List Rule3) (s at_ : Int) (A' : Option Addr) (n c : Nat) (xs : List Int) (w : World) (h : Rd3 w A nr rs) (hx : RdI w A' n xs) (hm : machB sy st rs = true) (hnr : nr ≤ 10000) (hn : 1 ≤ n ∧ n ≤ 60) (hat : 0 ≤ at_ ∧ at_ ≤ (n : Int) - 1) :
    Calls Try.prog 68 #[.agg #[.int .i64 sy, .int .i64 st, .slice A nr cp], .agg #[.int .i64 s, .int .i64 at_, .slice A' n c]] w (PtsOut2 (preT (preGo s at_ xs sy 0 rs [])) w) := by
  have HL := Lib.hid h.len
  have HLx := Lib.hid hx.len
  obtain ⟨w0, hw0⟩ : ∃ w0, (w.alloc (.cells #[i64 sy, i64 st, .slice A nr cp] 32)).alloc (.cells #[i64 s, i64 at_, .slice A' n c] 48) = w0 := ⟨_, rfl⟩
  have B00 := Lib.hid (show Below w.heap.size w w0 by rw [← hw0]; exact (below_size.alloc (Nat.le_refl _) _).alloc (by simp) _)
  have H := Lib.hid (show MachP w0 w.heap.size sy st A nr cp rs by
    have b0 := (Blk.new w 32 #[i64 sy, i64 st, .slice A nr cp]).alloc (.cells #[i64 s, i64 at_, .slice A' n c] 48)
    rw [hw0] at b0
    exact ⟨b0.cell 0, b0.cell 1, b0.cell 2, h.below B00.out⟩)
  have HX := Lib.hid (show PartP w0 (w.heap.size + 1) s at_ A' n c xs by
    have b0 := Blk.new (w.alloc (.cells #[i64 sy, i64 st, .slice A nr cp] 32)) 48 #[i64 s, i64 at_, .slice A' n c]
    rw [hw0, World.size_alloc] at b0
    exact ⟨b0.cell 0, b0.cell 1, b0.cell 2, hx.below B00.out⟩)
  have hz0 : w.heap.size < w0.heap.size := by rw [← hw0]; simp; omega
  have HM := Lib.hid hm; clear h hx
  have hsy := (machB_bd hm).1
  clear hm
  obtain ⟨R, hR⟩ : ∃ R, preGo s at_ xs sy 0 rs [] = R := ⟨_, rfl⟩
  rw [hR]
  have HR := Lib.hid hR; clear hR
  have m2 := (H.out.below (below_size.alloc (Nat.le_refl _) (.cells #[] 48))).c2
  go_enter Try.func68, Try.ntmps68
  go_wp2_with fail
  clear m2
  go_loopw [6, 15] (fun sv iv wr => ∃ (k m : Nat) (O : Option Addr) (oc : Nat) (ps : List Pt), k ≤ nr ∧ iv = .int .i64 k ∧ sv = .slice O m oc ∧ m ≤ k ∧ Hid (ps.length = m) ∧ Hid (R = preGo s at_ xs sy k (rs.drop k) (ps.map datP)) ∧ Hid (∀ t ∈ ps, t.n ≤ 60) ∧
    Hid (OwnS wr w0.heap.size 48 3 O m oc (ps.flatMap hdP) (ps.map bodyP)) ∧ Below w0.heap.size w0 wr) (fun _ iv _ => nr - (intOf iv).toNat)
  case atStart => exact ⟨0, 0, _, _, [], by omega, rfl, rfl, by omega, rfl, by rw [← HR.out]; rfl, by unfold Hid; simp, OwnS.nil (Own.litK (Nat.le_refl _)), below_size.alloc (Nat.le_refl _) _⟩
  case round =>
    clear hw0
    obtain ⟨k, m, O, oc, ps, hk, rfl, rfl, hmk, hpl, hr, hp1, hO, hb⟩ := hrel
    have HB := Lib.hid hb
    have hwz := hb.size
    by_cases hlt : k < nr
    · obtain ⟨ad, r, rfl, hab, hrk, hc0, hc1, hc2⟩ := (H.out.below hb).rd.at_ hlt
      obtain ⟨a, b, d⟩ := r
      have HRU := Lib.hid (mach_ruleP HM.out hrk)
      have HS := Lib.hid (show R = (match befR s at_ xs sy k (a, b, d) with | none => preGo s at_ xs sy (k + 1) (rs.drop (k + 1)) (ps.map datP) | some y => if 60 < y.2.2.length then none else preGo s at_ xs sy (k + 1) (rs.drop (k + 1)) (ps.map datP ++ [y])) by rw [hr.out, drop_at hrk, preGo]; rfl)
      clear hb hr hrk
      obtain ⟨o, ho⟩ : ∃ o, decide ((a, b, d) = noneR) = o := ⟨_, rfl⟩
      go_wp2_with fail
      refine (isRule_c _ _ _ _).mono ?_
      rintro e w2 ⟨rfl, hb⟩
      rw [ho]
      have em := up1 hb
      have r0 : w2.cell? ⟨wr.heap.size, 0, none⟩ = some (i64 a) := keepc hb (by exact new_cell _ _ _ 0)
      have r1 : w2.cell? ⟨wr.heap.size, 1, none⟩ = some (i64 b) := keepc hb (by exact new_cell _ _ _ 1)
      have r2 : w2.cell? ⟨wr.heap.size, 2, none⟩ = some (i64 d) := keepc hb (by exact new_cell _ _ _ 2)
      have E2 := Lib.hid (below_chain HB.out hwz em)
      have O2 := Lib.hid (hO.out.keep em)
      have hw2 := em.size
      clear hb em hc0 hc1 hc2
      cases o
      · have hnon := of_decide_eq_false ho
        obtain ⟨_, hmv, _⟩ := (HRU.out.resolve_left hnon).2
        obtain ⟨o, hob⟩ : ∃ o, befR s at_ xs sy k (a, b, d) = o := ⟨_, rfl⟩
        have HO := Lib.hid hob
        rw [hob] at HS
        have HSB := Lib.hid (show predB s at_ xs ((k : Int) / sy) ((k : Int) % sy) (a, b, d) = o by rw [← hob, befR, if_neg hnon])
        have HMV := Lib.hid hmv
        have X2 := Lib.hid (HX.out.below E2.out)
        have M2 := Lib.hid (H.out.below E2.out)
        have m0 := M2.out.c0; have p0 := X2.out.c0; have p1 := X2.out.c1; have p2 := X2.out.c2
        clear ho hob hnon hmv
        have v1 : wrap64 ((k : Int) / sy) = (k : Int) / sy := by unfold wrap64; have := div_bd hsy hlt hnr; omega
        go_wp2_with fail
        go_cut [9, 10] (fun pv bv wx => PrCut o 48 w2 pv bv wx)
        case first =>
          have x0 := Ext.cell m0; have x1 := Ext.cell r0; have x2 := Ext.cell r1; have x3 := Ext.cell r2; have x4 := Ext.cell p0; have x5 := Ext.cell p1; have x6 := Ext.cell p2
          refine Mix.wp_region_mixF 14 [3, 0, 0, 3, 0, 0, 0, 3, 0, 3, 1, 0, 0, 0, 1, 2, 0] (fun w' => ∃ x : Ext w2, w' = x.w) (by kernel_rfl) (by kernel_rfl) (InExt.drew _) _ _ (by rfl) ?_
          simp only [List.take_succ_cons, List.take_zero, List.drop_succ_cons, List.drop_zero]
          refine Mix.wpF_3 ?_
          (refine Mix.wpMix_read (by rfl) ?_; go_big_quiet_step (fail); refine wpQuiet_nil ?_)
          refine Mix.wpMix_nil ?_
          refine Mix.wpF_0 ?_
          (refine Mix.wpMix_pure (by rfl) ?_; go_big_quiet_step (fail); refine wpQuiet_nil ?_)
          refine Mix.wpMix_nil ?_
          refine Mix.wpF_0 ?_
          (refine Mix.wpMix_pure (by rfl) ?_; go_big_quiet_step (fail); refine wpQuiet_nil ?_)
          refine Mix.wpMix_nil ?_
          refine Mix.wpF_3 ?_
          (refine Mix.wpMix_read (by rfl) ?_; go_big_quiet_step (fail); refine wpQuiet_nil ?_)
          refine Mix.wpMix_nil ?_
          refine Mix.wpF_0 ?_
          (refine Mix.wpMix_pure (by rfl) ?_; go_big_quiet_step (fail); refine wpQuiet_nil ?_)
          refine Mix.wpMix_nil ?_
          refine Mix.wpF_0 ?_
          (refine Mix.wpMix_pure (by rfl) ?_; go_big_quiet_step (fail); refine wpQuiet_nil ?_)
          refine Mix.wpMix_nil ?_
          refine Mix.wpF_0 ?_
          (refine Mix.wpMix_pure (by rfl) ?_; go_big_quiet_step (fail); refine wpQuiet_nil ?_)
          refine Mix.wpMix_nil ?_
          refine Mix.wpF_3 ?_
          (refine Mix.wpMix_read (by rfl) ?_; go_big_quiet_step (fail); refine wpQuiet_nil ?_)
          refine Mix.wpMix_nil ?_
          refine Mix.wpF_0 ?_
          (refine Mix.wpMix_pure (by rfl) ?_; go_big_quiet_step (fail); refine wpQuiet_nil ?_)
          refine Mix.wpMix_nil ?_
          refine Mix.wpF_3 ?_
          (refine Mix.wpMix_read (by rfl) ?_; go_big_quiet_step (fail); refine wpQuiet_nil ?_)
          refine Mix.wpMix_nil ?_
          refine Mix.wpF_1 ?_ ?_
          · simp only [List.cons_append, List.nil_append]
            refine Mix.wpMix_chg (by rfl) (fun K hK => ?_)
            go_wp2_with fail
            refine hK _ _ ⟨⟨_, below_drew (below_size.alloc (Nat.le_refl _) _)⟩, rfl⟩ ?_
            clear hK K
            obtain ⟨wa, hwa⟩ : ∃ wa, (w2.alloc (.cells #[i64 0, i64 0, .slice none 0 0] 48)).drew = wa := ⟨_, rfl⟩
            rw [hwa]
            have EA : Below w2.heap.size w2 wa := by rw [← hwa]; exact below_drew (below_size.alloc (Nat.le_refl _) _)
            have ZA := Lib.hid (show Blk wa w2.heap.size 48 #[i64 0, i64 0, .slice none 0 0] by rw [← hwa]; exact (Blk.new w2 _ _).drew)
            have hza : w2.heap.size < wa.heap.size := ZA.out.lt
            clear hwa
            refine Mix.wpMix_chg (by rfl) (fun K hK => ?_)
            go_wp2_with fail
            refine (predecessor_c s at_ A' n c xs ((k : Int) / sy) ((k : Int) % sy) a b d _ (by exact X2.out.rd.below EA) hn hat HMV.out).mono ?_
            rw [HSB.out]
            rintro e wb ⟨s1, a1, A1, n1, c1, rfl, hy, hb⟩
            have em := below_chain EA EA.size hb
            have ZB := Lib.hid (ZA.out.keep hb)
            have HY := Lib.hid hy
            have EB := Lib.hid em
            have hzb := hb.size
            clear hb hy EA
            have z0 := ZB.out.cell 0; have g0 := ZB.out.frozen 0; have z1 := ZB.out.cell 1; have g1 := ZB.out.frozen 1; have z2 := ZB.out.cell 2; have g2 := ZB.out.frozen 2
            simp at z0 z1 z2
            go_wp2_with fail
            refine hK _ _ ⟨⟨_, em⟩, rfl⟩ ?_
            clear hK K
            repeat (first | (refine Mix.wpMix_read (by rfl) ?_; go_big_quiet_step (fail); refine wpQuiet_nil ?_) | (refine Mix.wpMix_pure (by rfl) ?_; go_big_quiet_step (fail); refine wpQuiet_nil ?_))
            refine Mix.wpMix_tail (by rfl) (fun K hK => ?_)
            go_wp2_with fail
            refine hK _ _ ?_
            clear hK K
            repeat (first | (refine Mix.wpMix_read (by rfl) ?_; go_big_quiet_step (fail); refine wpQuiet_nil ?_) | (refine Mix.wpMix_pure (by rfl) ?_; go_big_quiet_step (fail); refine wpQuiet_nil ?_))
            (refine Mix.wpMix_nil ?_; try simp only [Exit.then])
            go_wp2_with fail
            go_meet
            exact prCut ZB.out EB.out (Nat.le_refl _) HY.out (by omega) (.inl hza) (Nat.le_refl _)
          · skip
            refine Mix.wpMix_chg (by rfl) (fun K hK => ?_)
            go_wp2_with fail
            refine (predecessor_c s at_ A' n c xs ((k : Int) / sy) ((k : Int) % sy) a b d _ (by exact X2.out.rd.drew) hn hat HMV.out).mono ?_
            rw [HSB.out]
            rintro e wb ⟨s1, a1, A1, n1, c1, rfl, hy, hb⟩
            have em := below_of_drew hb
            have HY := Lib.hid hy
            have EB := Lib.hid em
            have hzb := em.size
            clear hb hy
            go_wp2_with fail
            refine hK _ _ ⟨⟨_, em⟩, rfl⟩ ?_
            clear hK K
            refine Mix.wpMix_nil ?_
            refine Mix.wpF_0 ?_
            (refine Mix.wpMix_pure (by rfl) ?_; go_big_quiet_step (fail); refine wpQuiet_nil ?_)
            refine Mix.wpMix_nil ?_
            refine Mix.wpF_0 ?_
            (refine Mix.wpMix_pure (by rfl) ?_; go_big_quiet_step (fail); refine wpQuiet_nil ?_)
            refine Mix.wpMix_nil ?_
            refine Mix.wpF_0 ?_
            (refine Mix.wpMix_pure (by rfl) ?_; go_big_quiet_step (fail); refine wpQuiet_nil ?_)
            refine Mix.wpMix_nil ?_
            refine Mix.wpF_nil ?_
            refine Mix.wpMix_chg (by rfl) (fun K hK => ?_)
            go_wp2_with fail
            refine hK _ _ ⟨⟨_, em.alloc hzb _⟩, rfl⟩ ?_
            clear hK K
            obtain ⟨wa, hwa⟩ : ∃ wa, wb.alloc (.cells #[i64 0, i64 0, .slice none 0 0] 48) = wa := ⟨_, rfl⟩
            rw [hwa]
            have ea : Below wb.heap.size wb wa := by rw [← hwa]; exact below_size.alloc (Nat.le_refl _) _
            have ZA := Lib.hid (show Blk wa wb.heap.size 48 #[i64 0, i64 0, .slice none 0 0] by rw [← hwa]; exact Blk.new wb _ _)
            have em2 := below_chain EB.out hzb ea
            have EA := Lib.hid ea
            have EM := Lib.hid em2
            have hza := ea.size
            have z0 := ZA.out.cell 0; have g0 := ZA.out.frozen 0; have z1 := ZA.out.cell 1; have g1 := ZA.out.frozen 1; have z2 := ZA.out.cell 2; have g2 := ZA.out.frozen 2
            simp at z0 z1 z2
            clear hwa ea
            refine Mix.wpMix_tail (by rfl) (fun K hK => ?_)
            go_wp2_with fail
            refine hK _ _ ?_
            clear hK K
            repeat (first | (refine Mix.wpMix_read (by rfl) ?_; go_big_quiet_step (fail); refine wpQuiet_nil ?_) | (refine Mix.wpMix_pure (by rfl) ?_; go_big_quiet_step (fail); refine wpQuiet_nil ?_))
            (refine Mix.wpMix_nil ?_; try simp only [Exit.then])
            go_wp2_with fail
            go_meet
            exact prCut ZA.out EM.out hzb (fun y hy => (HY.out y hy).imp id (fun h => h.imp id (fun h => h.imp id (fun h => h.below EA.out)))) (Nat.le_refl _) (.inr (Nat.le_refl _)) hza
        case rest =>
          obtain ⟨gy, s1, a1, A1, n1, c1, rfl, rfl, hG, hgy, hy, hE⟩ := hcut
          have HG := Lib.hid hG; have HY := Lib.hid hy; have E3 := Lib.hid hE
          have hw3 := hE.size
          have B3 := Lib.hid (below_chain E2.out (by omega) hE)
          have g0 := hG.cell 0; have g1 := hG.cell 1; have g2 := hG.cell 2
          simp at g0 g1 g2
          obtain ⟨wx, rfl⟩ : ∃ wx : World, wx = wc := ⟨_, rfl⟩
          clear hG hy hE m0 p0 p1 p2 r0 r1 r2
          cases o with
          | none =>
            go_wp2_with fail
            go_roundw
            case rel => exact ⟨k + 1, m, O, oc, ps, by omega, by go_num, rfl, by omega, hpl, HS.out, hp1, O2.out.keep E3.out, B3.out⟩
            case measure => simp [intOf]; omega
          | some y =>
            obtain ⟨rfl, rfl, rfl, hw⟩ := HY.out y rfl
            have hyl := befR_len HO.out
            rw [HLx.out] at hyl
            have HW := Lib.hid hw
            obtain ⟨s1, a1, ys⟩ := y
            clear hw HY
            obtain ⟨n1, hn1⟩ : ∃ n1, ys.length = n1 := ⟨_, rfl⟩
            have HN1 := Lib.hid hn1
            simp only [hn1] at hyl HW HS HG g0 g1 g2 ⊢
            clear hn1
            by_cases h60 : 60 < n1
            · have HS2 := Lib.hid (show R = none by rw [HS.out, if_pos h60])
              have k60 : decide ((60 : Int) < (n1 : Int)) = true := decide_eq_true (by omega)
              go_wp2_with fail
              go_ret2
              rw [HS2.out]
              exact PtsOut2.bad _ (B00.out.trans (B3.out.mono (by omega)))
            · have HS2 := Lib.hid (show R = preGo s at_ xs sy (k + 1) (rs.drop (k + 1)) (ps.map datP ++ [(s1, a1, ys)]) by rw [HS.out, if_neg h60])
              have k60 : decide ((60 : Int) < (n1 : Int)) = false := decide_eq_false (by omega)
              have O3 := Lib.hid (O2.out.keep E3.out)
              obtain ⟨wa, hwa⟩ : ∃ wa, wx.alloc (.cells #[i64 s1, i64 a1, .slice A1 n1 c1] 48) = wa := ⟨_, rfl⟩
              have EA := Lib.hid (show Below w2.heap.size w2 wa by rw [← hwa]; exact E3.out.alloc hw3 _)
              have hza : wa.heap.size = wx.heap.size + 1 := by rw [← hwa]; simp
              have WA := Lib.hid (show Wr wa w2.heap.size wa.heap.size A1 n1 (ys.map i64) by
                have := HW.out.below (show Below wx.heap.size wx wa by rw [← hwa]; exact below_size.alloc (Nat.le_refl _) _)
                exact this.wider (Nat.le_refl _) (by omega))
              have CA := Lib.hid (show ∀ j u, (hdP ⟨s1, a1, A1, n1, c1, ys⟩)[j]? = some u → wa.cell? ((⟨wx.heap.size, 0, none⟩ : Addr).add j) = some u by
                have hb3 : Blk wa wx.heap.size 48 #[i64 s1, i64 a1, .slice A1 n1 c1] := by
                  rw [← hwa]; exact Blk.new wx _ _
                exact wr3 hb3)
              have hz : w0.heap.size ≤ wa.heap.size := by omega
              clear h60 hza
              go_wp2_with (at_builtin; refine wp_app (by rfl) _ _ 45 48 (.agg #[.int .i64 0, .int .i64 0, .slice none 0 0]) 3 40 (by rfl) Try.underlying45 info_Partial rfl (by omega) w0.heap.size O m oc (ps.flatMap hdP) (by rfl) (by exact (O2.out.keep EA.out).own) ⟨wx.heap.size, 0, none⟩ 1 1 (hdP ⟨s1, a1, A1, n1, c1, ys⟩) (by rfl) (by omega) (by rfl) CA.out (hdP_one _) (by omega) (by omega) hz ?_; intro g' cap w3 own3 hb3 hk3 hg3 hz3)
              have O4 := Lib.hid (O2.out.push (s := sgI A1 n1 ys) (by omega) EA.out WA.out own3 hk3 hg3 hz3)
              have B4 := Lib.hid (E2.out.trans ((EA.out.mono (by omega)).trans hb3))
              clear own3 hb3 hk3 hg3 hwa
              go_wp2_with fail
              go_roundw
              case rel =>
                refine ⟨k + 1, m + 1, some ⟨g', 0, none⟩, cap, ps ++ [⟨s1, a1, A1, n1, c1, ys⟩], by omega, by go_num, rfl, by omega, by unfold Hid; rw [List.length_append, hpl.out]; rfl, by unfold Hid; rw [HS2.out, List.map_append]; rfl, ?_, ?_, B4.out⟩
                · intro t ht
                  rcases List.mem_append.1 ht with ht | ht
                  · exact hp1.out t ht
                  · rw [List.mem_singleton] at ht; subst ht; show n1 ≤ 60; simp at k60; omega
                · have := O4.out
                  unfold Hid
                  rw [List.flatMap_append, List.map_append]
                  simpa [bodyP] using this
              case measure => simp [intOf]; omega
      · have HS2 := Lib.hid (show R = preGo s at_ xs sy (k + 1) (rs.drop (k + 1)) (ps.map datP) by rw [HS.out, befR, if_pos (of_decide_eq_true ho)])
        clear ho HS
        go_wp2_with fail
        go_roundw
        case rel => exact ⟨k + 1, m, O, oc, ps, by omega, by go_num, rfl, by omega, hpl, HS2.out, hp1, O2.out, E2.out⟩
        case measure => simp [intOf]; omega
    · have HS := Lib.hid (show R = some (ps.map datP) by rw [hr.out, List.drop_eq_nil_of_le (by rw [HL.out]; omega), preGo])
      clear hb hr
      go_wp2_with fail
      go_ret2
      rw [HS.out]
      refine ⟨O, m, oc, ps, rfl, hO.out.wrS.wider (by omega) (Nat.le_refl _), ⟨by omega, fun t ht => by have := hp1.out t ht; omega, ?_, rfl⟩, B00.out.trans (HB.out.mono (by omega))⟩
      have := sumP_bd ps 60 hp1.out
      rw [hpl.out] at this; omega
set_option maxHeartbeats 1000000 in
theorem iPredecessorsOf_c (sy st : Int) (A : Option Addr) (n cp : Nat) (rs : List Rule3) (s a : Int) (A' : Option Addr) (m c' : Nat) (xs : List Int) (w : World) (h : RdS w [sgX enc3 3 A n rs]) (h' : RdS w [sgI A' m xs]) (hn : n ≤ 1000000000) (hn' : m ≤ 1000000000) :
    Calls Try.prog 25 #[.agg #[.int .i64 sy, .int .i64 st, .slice A n cp], .agg #[.int .i64 s, .int .i64 a, .slice A' m c']] w (PtsOut2 (preR sy st rs s a xs) w) := by
  replace h : Rd3 w A n rs := h.head
  replace h' : RdI w A' m xs := h'.head
  have HLr := Lib.hid h.len; have HLx := Lib.hid h'.len
  obtain ⟨w0, hw0⟩ : ∃ w0, (w.alloc (.cells #[i64 sy, i64 st, .slice A n cp] 32)).alloc (.cells #[i64 s, i64 a, .slice A' m c'] 48) = w0 := ⟨_, rfl⟩
  have B0 := Lib.hid (show Below w.heap.size w w0 by rw [← hw0]; exact (below_size.alloc (Nat.le_refl _) _).alloc (by simp) _)
  have M0 := Lib.hid (show MachP w0 w.heap.size sy st A n cp rs by
    have b0 := (Blk.new w 32 #[i64 sy, i64 st, .slice A n cp]).alloc (.cells #[i64 s, i64 a, .slice A' m c'] 48)
    rw [hw0] at b0
    exact ⟨b0.cell 0, b0.cell 1, b0.cell 2, h.below B0.out⟩)
  have P0 := Lib.hid (show PartP w0 (w.heap.size + 1) s a A' m c' xs by
    have b0 := Blk.new (w.alloc (.cells #[i64 sy, i64 st, .slice A n cp] 32)) 48 #[i64 s, i64 a, .slice A' m c']
    rw [hw0, World.size_alloc] at b0
    exact ⟨b0.cell 0, b0.cell 1, b0.cell 2, h'.below B0.out⟩)
  have hz0 := B0.out.size
  obtain ⟨R, hR⟩ : ∃ R, preR sy st rs s a xs = R := ⟨_, rfl⟩
  rw [hR]
  obtain ⟨u, hu⟩ : ∃ u, vpartB sy st rs s a xs = u := ⟨_, rfl⟩
  have HR := Lib.hid (show R = if u then preT (preGo s a xs sy 0 rs []) else ([], 1) by rw [← hR, preR, hu])
  have HU := Lib.hid hu
  have q0 := M0.out.c0; have q1 := M0.out.c1; have q2 := M0.out.c2; have r0 := P0.out.c0; have r1 := P0.out.c1; have r2 := P0.out.c2
  clear h h' hR
  go_enter Try.func25, Try.ntmps25
  go_wp2_with fail
  refine (iValidPartial_c sy st A n cp rs s a A' m c' xs _ (by exact RdS.one M0.out.rd) (by exact RdS.one P0.out.rd) hn hn').mono ?_
  rw [hu]
  rintro e w2 ⟨rfl, hb⟩
  have M2 := Lib.hid (M0.out.below hb); have P2 := Lib.hid (P0.out.below hb); have B2 := Lib.hid (below_chain B0.out hz0 hb)
  clear hb hu hw0 q0 q1 q2 r0 r1 r2
  cases u
  · go_wp2_with fail
    go_ret2
    rw [HR.out]
    exact PtsOut2.bad _ B2.out
  have HU1 := Lib.hid (show machB sy st rs = true by have := HU.out; rw [vpartB, Bool.and_eq_true] at this; exact this.1)
  have HU2 := Lib.hid (show partB sy st s a xs = true by have := HU.out; rw [vpartB, Bool.and_eq_true] at this; exact this.2)
  have hn6 := machB_n HU1.out HLr.out
  obtain ⟨hs, hm60, ha, hxs⟩ := partB_parts HU2.out HLx.out
  clear hxs
  have q0 := M2.out.c0; have q1 := M2.out.c1; have q2 := M2.out.c2; have r0 := P2.out.c0; have r1 := P2.out.c1; have r2 := P2.out.c2
  go_wp2_with fail
  refine (predecessors_c sy st A n cp rs s a A' m c' xs _ (by exact M2.out.rd) (by exact P2.out.rd) HU1.out (by omega) hm60 ha).mono ?_
  rintro e w3 ⟨A2, n2, c2, ps, rfl, hw, hp, hb⟩
  have W3 := Lib.hid hw; have PP := Lib.hid hp; have B3 := Lib.hid (below_chain B2.out B2.out.size hb)
  have hz := B2.out.size
  clear hw hp hb
  go_wp2_with fail
  go_ret2
  rw [HR.out, if_pos trivial]
  exact ⟨A2, n2, c2, ps, rfl, W3.out.wider hz (Nat.le_refl _), PP.out, B3.out⟩
set_option maxHeartbeats 1000000 in
theorem sPredecessorsOf_c (sy st : Int) (A : Option Addr) (n cp : Nat) (rs : List Rule3) (s a : Int) (A' : Option Addr) (m c' : Nat) (xs : List Int) (w : World) (h : RdS w [sgX enc3 3 A n rs]) (h' : RdS w [sgI A' m xs]) (hn : n ≤ 1000000000) (hn' : m ≤ 1000000000) :
    Calls Try.prog 23 #[.agg #[.int .i64 sy, .int .i64 st, .slice A n cp], .agg #[.int .i64 s, .int .i64 a, .slice A' m c']] w (PtsOut2 (preR sy st rs s a xs) w) := by
  replace h : Rd3 w A n rs := h.head
  replace h' : RdI w A' m xs := h'.head
  have HLr := Lib.hid h.len; have HLx := Lib.hid h'.len
  obtain ⟨w0, hw0⟩ : ∃ w0, (w.alloc (.cells #[i64 sy, i64 st, .slice A n cp] 32)).alloc (.cells #[i64 s, i64 a, .slice A' m c'] 48) = w0 := ⟨_, rfl⟩
  have B0 := Lib.hid (show Below w.heap.size w w0 by rw [← hw0]; exact (below_size.alloc (Nat.le_refl _) _).alloc (by simp) _)
  have M0 := Lib.hid (show MachP w0 w.heap.size sy st A n cp rs by
    have b0 := (Blk.new w 32 #[i64 sy, i64 st, .slice A n cp]).alloc (.cells #[i64 s, i64 a, .slice A' m c'] 48)
    rw [hw0] at b0
    exact ⟨b0.cell 0, b0.cell 1, b0.cell 2, h.below B0.out⟩)
  have P0 := Lib.hid (show PartP w0 (w.heap.size + 1) s a A' m c' xs by
    have b0 := Blk.new (w.alloc (.cells #[i64 sy, i64 st, .slice A n cp] 32)) 48 #[i64 s, i64 a, .slice A' m c']
    rw [hw0, World.size_alloc] at b0
    exact ⟨b0.cell 0, b0.cell 1, b0.cell 2, h'.below B0.out⟩)
  have hz0 := B0.out.size
  obtain ⟨R, hR⟩ : ∃ R, preR sy st rs s a xs = R := ⟨_, rfl⟩
  rw [hR]
  obtain ⟨u1, hu1⟩ : ∃ u, machB sy st rs = u := ⟨_, rfl⟩
  obtain ⟨u2, hu2⟩ : ∃ u, partB sy st s a xs = u := ⟨_, rfl⟩
  have HR := Lib.hid (show R = if u1 && u2 then preT (preGo s a xs sy 0 rs []) else ([], 1) by rw [← hR, preR, vpartB, hu1, hu2])
  have HU1 := Lib.hid hu1; have HU2 := Lib.hid hu2
  clear h h' hR hu2
  go_enter Try.func23, Try.ntmps23
  go_wp2_with fail
  refine (l05Is_c w.heap.size sy st A n cp rs u1 _ (by exact M0.out) hn hu1).mono ?_
  rintro e w1 ⟨rfl, hb⟩
  have M1 := Lib.hid (M0.out.below hb); have P1 := Lib.hid (P0.out.below hb); have B1 := Lib.hid (below_chain B0.out hz0 hb)
  clear hb hu1 hw0
  cases u1
  · go_wp2_with fail
    go_ret2
    rw [HR.out]
    exact PtsOut2.bad _ B1.out
  have hbd := machB_bd HU1.out
  go_wp2_with fail
  refine (l26Good_c _ sy st A n cp rs _ s a A' m c' xs u2 _ (by exact M1.out) (by exact P1.out) hbd.1 hbd.2.1 hn' HU2.out).mono ?_
  rintro e w2 ⟨rfl, hq⟩
  have hb := hq.below w1.heap.size
  have M2 := Lib.hid (M1.out.below hb); have P2 := Lib.hid (P1.out.below hb); have B2 := Lib.hid (below_chain B1.out B1.out.size hb)
  clear hb hbd hq
  cases u2
  · go_wp2_with fail
    go_ret2
    rw [HR.out]
    exact PtsOut2.bad _ B2.out
  have hn6 := machB_n HU1.out HLr.out
  obtain ⟨hs, hm60, ha, hxs⟩ := partB_parts HU2.out HLx.out
  clear hxs
  go_wp2_with fail
  refine (l26Predecessors_c _ sy st A n cp rs _ s a A' m c' xs _ (by exact M2.out) (by exact P2.out) HU1.out (by omega) hm60 ha).mono ?_
  rintro e w3 ⟨A2, n2, c2, rfl, hp, hb⟩
  have PP := Lib.hid hp; have B3 := Lib.hid (below_chain B2.out B2.out.size hb)
  have hz := B2.out.size
  clear hp hb
  obtain ⟨o, ho⟩ : ∃ o, preGo s a xs sy 0 rs [] = o := ⟨_, rfl⟩
  rw [ho] at PP HR ⊢
  clear ho
  cases o with
  | none =>
    go_wp2_with fail
    go_ret2
    rw [HR.out]
    exact PtsOut2.bad _ B3.out
  | some l =>
    obtain ⟨ps, hw, hp⟩ := PP.out l rfl
    have W3 := Lib.hid hw; have P3 := Lib.hid hp
    clear hw hp
    go_wp2_with fail
    go_ret2
    rw [HR.out]
    exact ⟨A2, n2, c2, ps, rfl, W3.out.wider hz (Nat.le_refl _), P3.out, B3.out⟩
end Go.Proofs.Ytfahdgmlhinabaa
