/-
  Contracts of chapter 26: the reference's predecessor of a partial configuration by a rule.
-/
import Derived.Test.YtfahdgmlhinabaaC26p
namespace Go.Proofs.Ytfahdgmlhinabaa
open Go.RowKit

theorem l00OwnO_c (A : Option Addr) (n c : Nat) (ws : List Int) (w : World) (h : RdI w A n ws) (h0 : 0 < n) (hn : n ≤ 1000000) :
    Calls Try.prog 139 #[.slice A n c] w fun e w' => ∃ g cap, e = .returned (.slice (some ⟨g, 0, none⟩) n cap) ∧ Own w' w.heap.size 2 1 (some ⟨g, 0, none⟩) n cap (ws.map i64) ∧ Below w.heap.size w w' := by
  obtain ⟨hl, hc⟩ := h
  obtain ⟨ad, rfl, hab, hcs⟩ := hc h0
  have HL := Lib.hid hl
  have HC := Lib.hid (show ∀ j u, (ws.map i64)[j]? = some u → (w.alloc (.cells #[] 2)).cell? (ad.add j) = some u from fun j u hj => keepa _ (hcs j u hj))
  clear hl hc hcs
  go_enter Try.func139, Try.ntmps139
  go_wp2_with (at_builtin; refine wp_app (by rfl) _ _ 25 2 (.int .i64 0) 1 8 (by rfl) Try.underlying25 info_i64 rfl (by omega) w.heap.size (some ⟨w.heap.size, 0, none⟩) 0 0 [] (by rfl) (by exact Own.lit (Nat.le_refl _)) ad n c (ws.map i64) (by rfl) h0 (by rw [HL.out, Nat.mul_one]) (by exact HC.out) (by intro u hu; obtain ⟨y, _, rfl⟩ := List.mem_map.1 hu; rfl) (by omega) (by omega) (by simp) ?_; intro g' cap w2 own2 hb2 hk2 hg2 hz2)
  rw [Nat.zero_add, List.nil_append] at own2
  have O2 := Lib.hid own2; have B2 := Lib.hid ((below_size.alloc (Nat.le_refl _) (.cells #[] 2)).trans hb2)
  clear own2 hb2 hk2 hg2 hz2
  go_wp2_with fail
  go_ret
  exact ⟨g', cap, by simp, O2.out, B2.out⟩
def befR (s at_ : Int) (xs : List Int) (sy : Int) (k : Nat) (r : Rule3) : Option Part := if r = noneR then none else predB s at_ xs ((k : Int) / sy) ((k : Int) % sy) r
theorem Own.lit1' {w : World} {B : Nat} {e : TypeId} {v : Value} (hB : B ≤ w.heap.size) : Own (w.alloc (.cells #[v] e)) B e 1 (some ⟨w.heap.size, 0, none⟩) 1 1 [v] :=
  ⟨by simp, .inr ⟨w.heap.size, 1, #[v], rfl, hB, heap_alloc_new w _, by omega, by simp [maxLen], by simp, by simp⟩⟩
set_option maxHeartbeats 4000000 in
set_option maxRecDepth 100000 in
theorem l26Before_c (g : Nat) (sy st : Int) (A : Option Addr) (nr cp : Nat) (rs : List Rule3) (g' : Nat) (s at_ : Int) (A' : Option Addr) (n c : Nat) (xs : List Int) (i : Nat) (wr_ mv nx : Int) (w : World) (h : MachP w g sy st A nr cp rs) (hx : PartP w g' s at_ A' n c xs) (hsy : 2 ≤ sy ∧ sy ≤ 6) (hnr : nr ≤ 10000)
    (hi : rs[i]? = some (wr_, mv, nx)) (hn : 1 ≤ n ∧ n ≤ 60) (hat : 0 ≤ at_ ∧ at_ ≤ (n : Int) - 1) (hr : (wr_, mv, nx) = noneR ∨ (mv = 1 ∨ mv = -1)) :
    Calls Try.prog 111 #[.pointer (some ⟨g, 0, none⟩), .pointer (some ⟨g', 0, none⟩), .int .i64 i] w (PrOut (befR s at_ xs sy i (wr_, mv, nx)) w) := by
  have HL := Lib.hid hx.rd.len
  have hin : i < nr := by have h1 := (List.getElem?_eq_some_iff.1 hi).1; have h2 := h.rd.len; omega
  obtain ⟨ar, xr, rfl, _, hxr, hr0, hr1, hr2⟩ := h.rd.at_ hin
  have hxr2 : xr = (wr_, mv, nx) := by rw [hi] at hxr; injection hxr with hxr; exact hxr.symm
  subst hxr2
  obtain ⟨R, hR⟩ : ∃ R, befR s at_ xs sy i (wr_, mv, nx) = R := ⟨_, rfl⟩
  rw [hR]
  have HRR := Lib.hid hR
  have m0 := h.c0; have m2 := h.c2; have p0 := hx.c0; have p1 := hx.c1; have p2 := hx.c2
  have H := Lib.hid h; have HX := Lib.hid hx
  have m2a := fun o => keepa o m2; have ra := fun o => keepa o hr0; have rb := fun o => keepa o hr1; have rc := fun o => keepa o hr2
  clear hxr h hx hi hR
  go_enter Try.func111, Try.ntmps111
  go_wp2_with fail
  clear m2a ra rb rc
  obtain ⟨wn, hwn⟩ : ∃ wn, (w.alloc (.cells #[i64 0, i64 0, .slice none 0 0] 48)).alloc (.cells #[i64 wr_, i64 mv, i64 nx] 142) = wn := ⟨_, rfl⟩
  rw [hwn]
  have XA := Lib.hid (show Blk wn w.heap.size 48 #[i64 0, i64 0, .slice none 0 0] by rw [← hwn]; exact (Blk.new w _ _).alloc _)
  have XB := Lib.hid (show Blk wn (w.heap.size + 1) 142 #[i64 wr_, i64 mv, i64 nx] by rw [← hwn]; have := Blk.new (w.alloc (.cells #[i64 0, i64 0, .slice none 0 0] 48)) 142 #[i64 wr_, i64 mv, i64 nx]; rwa [World.size_alloc] at this)
  have EB := Lib.hid (show Below w.heap.size w wn by rw [← hwn]; exact (below_size.alloc (Nat.le_refl _) _).alloc (by simp) _)
  have hzn : wn.heap.size = w.heap.size + 1 + 1 := by rw [← hwn]; simp
  have HZN := Lib.hid hzn
  have hzn1 : w.heap.size + 1 + 1 ≤ wn.heap.size := by omega
  clear hwn hr0 hr1 hr2 hzn
  have b0 := XB.out.cell 0; have b1 := XB.out.cell 1; have b2 := XB.out.cell 2
  simp at b0 b1 b2
  have PN := Lib.hid (HX.out.below EB.out)
  have q0 := PN.out.c0
  have y0 := Ext.cell b0; have y1 := Ext.cell b1; have y2 := Ext.cell b2; have y3 := Ext.cell q0
  clear m0 m2 p0 p1 p2
  rcases rule_cases wr_ mv nx with ⟨hnon, hp0, hp1, hp2⟩ | ⟨hnon, hne'⟩
  · have HF := Lib.hid (show R = none by rw [← HRR.out, befR, if_pos hnon])
    subst hp0; subst hp1; subst hp2
    clear hnon b0 b1 b2 hr
    refine Mix.wp_region_mix [3, 1, 0, 0, 0, 3, 0, 0, 0, 3, 0, 0] (fun w' => ∃ x : Ext wn, w' = x.w) (by kernel_rfl) (by kernel_rfl) (InExt.drew _) ?_
    repeat (first | (refine Mix.wpMix_read (by rfl) ?_; go_big_quiet_step (fail); refine wpQuiet_nil ?_) | (refine Mix.wpMix_pure (by rfl) ?_; go_big_quiet_step (fail); refine wpQuiet_nil ?_))
    refine Mix.wpMix_chg (by rfl) (fun K hK => ?_)
    go_wp2_with fail
    refine (l05None_c _).mono ?_
    rintro e w3 ⟨rfl, hb⟩
    have em := below_of_drew hb
    go_wp2_with fail
    refine hK _ _ ⟨⟨_, em⟩, rfl⟩ ?_
    clear hK K
    repeat (first | (refine Mix.wpMix_read (by rfl) ?_; go_big_quiet_step (fail); refine wpQuiet_nil ?_) | (refine Mix.wpMix_pure (by rfl) ?_; go_big_quiet_step (fail); refine wpQuiet_nil ?_))
    (refine Mix.wpMix_nil ?_; try simp only [Exit.then])
    have bA := XA.out.keep em
    have x0 := bA.cell 0; have x1 := bA.cell 1; have x2 := bA.cell 2; have z0 := bA.frozen 0; have z1 := bA.frozen 1; have z2 := bA.frozen 2
    simp at x0 x1 x2
    go_wp2_with fail
    refine bodyPost_ret (v := .tuple #[.agg #[i64 0, i64 0, .slice none 0 0], .bool false]) (by simp [results, Try.results111, go_sem, x0, x1, x2]) rfl ?_
    rw [HF.out]
    exact PrOut.bad ((by have hzz := (below_chain EB.out EB.out.size em).size; repeat' (first | (with_reducible exact below_chain EB.out EB.out.size em) | (with_reducible refine Below.alloc ?_ ?_ _) | (with_reducible refine Below.setCell ?_ ?_ _) | (with_reducible refine below_drew ?_) | omega | (simp; done) | (simp; omega))))
  have hne2 := rule_ne wr_ mv nx hne'
  have hmv := hr.resolve_left hnon
  have HR := Lib.hid (show R = predB s at_ xs ((i : Int) / sy) ((i : Int) % sy) (wr_, mv, nx) by rw [← HRR.out, befR, if_neg hnon])
  obtain ⟨hh, hhd⟩ : ∃ hh, at_ - mv = hh := ⟨_, rfl⟩
  have HR2 := Lib.hid (show R = if nx ≠ s then none else if hh < 0 then some ((i : Int) / sy, 0, ((i : Int) % sy) :: xs) else if hh = (n : Int) then some ((i : Int) / sy, hh, xs ++ [(i : Int) % sy]) else if xs.getD hh.toNat 0 ≠ wr_ then none else some ((i : Int) / sy, hh, xs.set hh.toNat ((i : Int) % sy)) by
    rw [HR.out, predB, HL.out, hhd])
  have hhb : -1 ≤ hh ∧ hh ≤ (n : Int) := by omega
  have vh : IntKind.i64.wrap (at_ - mv) = hh := (IntWalk.i64_in _ (by omega)).trans hhd
  have vd : wrap64 ((i : Int) / sy) = (i : Int) / sy := by unfold wrap64; have := div_bd hsy hin hnr; omega
  clear hne' hr hnon HRR HR hhd b0 b1 b2
  obtain ⟨u, hu⟩ : ∃ u, (nx != s) = u := ⟨_, rfl⟩
  have HU := Lib.hid hu
  cases u
  all_goals
    refine Mix.wp_region_mix [3, 1, 0, 0, 0, 3, 0, 0, 0, 3, 0, 0] (fun w' => ∃ x : Ext wn, w' = x.w) (by kernel_rfl) (by kernel_rfl) (InExt.drew _) ?_
    repeat (first | (refine Mix.wpMix_read (by rfl) ?_; go_big_quiet_step (fail); refine wpQuiet_nil ?_) | (refine Mix.wpMix_pure (by rfl) ?_; go_big_quiet_step (fail); refine wpQuiet_nil ?_))
    refine Mix.wpMix_chg (by rfl) (fun K hK => ?_)
    go_wp2_with fail
    refine (l05None_c _).mono ?_
    rintro e w3 ⟨rfl, hb⟩
    have em := below_of_drew hb
    go_wp2_with fail
    refine hK _ _ ⟨⟨_, em⟩, rfl⟩ ?_
    clear hK K
    repeat (first | (refine Mix.wpMix_read (by rfl) ?_; go_big_quiet_step (fail); refine wpQuiet_nil ?_) | (refine Mix.wpMix_pure (by rfl) ?_; go_big_quiet_step (fail); refine wpQuiet_nil ?_))
    (refine Mix.wpMix_nil ?_; try simp only [Exit.then])
    clear hne2 y0 y1 y2 y3 q0
  · have HR3 := Lib.hid (show R = if hh < 0 then some ((i : Int) / sy, 0, ((i : Int) % sy) :: xs) else if hh = (n : Int) then some ((i : Int) / sy, hh, xs ++ [(i : Int) % sy]) else if xs.getD hh.toNat 0 ≠ wr_ then none else some ((i : Int) / sy, hh, xs.set hh.toNat ((i : Int) % sy)) by
      rw [HR2.out, if_neg (by simpa using HU.out)])
    have A3 := Lib.hid (XA.out.keep em); have B3 := Lib.hid (XB.out.keep em); have E3 := Lib.hid (below_chain EB.out EB.out.size em)
    have P3 := Lib.hid (PN.out.below em)
    have M3 := Lib.hid (H.out.below E3.out)
    have q1 := P3.out.c1; have q2 := P3.out.c2
    have b0 := B3.out.cell 0; have b1 := B3.out.cell 1
    simp at b0 b1
    have hz3 := em.size
    clear HR2 hb hu em
    go_wp2_with fail
    go_quiet (fail)
    go_wp2_with fail
    have E4 := Lib.hid (show Below w3.heap.size w3 (w3.drewN nq) from below_drewN below_size _)
    refine (l00OwnO_c A' n c xs _ (by exact P3.out.rd.below E4.out) (by omega) (by omega)).mono ?_
    rintro e w4 ⟨gc, cap, rfl, hO, hb⟩
    have E5 := Lib.hid (below_chain E4.out E4.out.size hb)
    have O5 := Lib.hid (show Own w4 w3.heap.size 2 1 (some ⟨gc, 0, none⟩) n cap (xs.map i64) from hO)
    have hz5 := hb.size
    rw [show (w3.drewN nq).heap.size = w3.heap.size from rfl] at hz5
    have B5 := Lib.hid (B3.out.keep E5.out)
    have b0 := B5.out.cell 0
    simp at b0
    have hc1 := O5.out.cap
    clear hO hb q1 q2 b1
    by_cases k2 : hh < 0
    · have HRF := Lib.hid (show R = some ((i : Int) / sy, 0, (wr_ :: xs).set 0 ((i : Int) % sy)) by rw [HR3.out, if_pos k2]; rfl)
      have k2b : decide (hh < 0) = true := decide_eq_true k2
      clear HR3 k2
      obtain ⟨ad4, ea4, hab4, hcs4⟩ := O5.out.wr.rd.2 (by omega : 0 < n)
      injection ea4 with ea4; subst ea4
      have HL4 := Lib.hid (show (xs.map i64).length = n * 1 by rw [List.length_map, HL.out, Nat.mul_one])
      have HC4 := Lib.hid (show ∀ j u, (xs.map i64)[j]? = some u → (w4.alloc (.cells #[i64 wr_] 2)).cell? ((⟨gc, 0, none⟩ : Addr).add j) = some u from fun j u hj => keepa _ (hcs4 j u hj))
      clear hcs4
      go_wp2_with (at_builtin; refine wp_app (by rfl) _ _ 25 2 (.int .i64 0) 1 8 (by rfl) Try.underlying25 info_i64 rfl (by omega) w3.heap.size (some ⟨w4.heap.size, 0, none⟩) 1 1 [i64 wr_] (by rfl) (by exact Own.lit1' hz5) ⟨gc, 0, none⟩ n cap (xs.map i64) (by rfl) (by omega) HL4.out (by exact HC4.out) (by intro u hu; obtain ⟨y, _, rfl⟩ := List.mem_map.1 hu; rfl) (by omega) (by omega) (by simp; omega) ?_; intro gd cap6 w6 own6 hb6 hk6 hg6 hz6)
      have O6 := Lib.hid (show Own w6 w3.heap.size 2 1 (some ⟨gd, 0, none⟩) (1 + n) cap6 ((wr_ :: xs).map i64) from own6)
      have E6 := Lib.hid (E5.out.trans ((below_size.alloc (Nat.le_refl _) (.cells #[i64 wr_] 2)).mono hz5 |>.trans hb6))
      have hk : 0 < 1 + n := by omega
      have HV := Lib.hid (show (wr_ :: xs)[0]? = some wr_ from rfl)
      have HN := Lib.hid (show 1 + n = ((wr_ :: xs).set 0 ((i : Int) % sy)).length by rw [List.length_set, List.length_cons, HL.out, Nat.add_comm])
      clear own6 hb6 hk6 hg6 hz6 O5 HC4 HL4 b0 B5 hz5 hab4 hc1
      have W6 := Lib.hid O6.out.wr
      have B6 := Lib.hid (B3.out.keep E6.out); have A6 := Lib.hid (A3.out.keep E6.out); have M6 := Lib.hid (M3.out.below E6.out)
      have b0 := B6.out.cell 0; have m0 := M6.out.c0
      simp at b0
      have hz6 := E6.out.size
      obtain ⟨_, v, ea, hg1, hg2, _, hv, hcc, hf⟩ := W6.out.at_ hk
      injection ea with ea; subst ea
      have hg3 : w3.heap.size ≤ gd := hg1
      have hg4 : gd < w6.heap.size := hg2
      rw [List.getElem?_map, HV.out] at hv
      injection hv with hv; subst hv
      rw [head_add] at hcc hf
      have hcc0 : w6.cell? ⟨gd, 0, none⟩ = some (i64 wr_) := hcc
      have W7 := Lib.hid (W6.out.set hk (i64 ((i : Int) % sy)))
      rw [head_add] at W7
      go_quiet (fail)
      have hcd : (w6.drewN nq).cell? ⟨gd, 0, none⟩ = some (i64 wr_) := hcc
      have hfd : (w6.drewN nq).frozen? ⟨gd, 0, none⟩ = false := hf
      have md : (w6.drewN nq).cell? ⟨g, 0, none⟩ = some (i64 sy) := m0
      obtain ⟨w7, hw7⟩ : ∃ w7, (w6.drewN nq).setCell ⟨gd, 0, none⟩ (i64 ((i : Int) % sy)) = w7 := ⟨_, rfl⟩
      have hwx : gd ≠ w.heap.size := by omega
      have bA : Blk w7 w.heap.size 48 #[i64 0, i64 0, .slice none 0 0] := by rw [← hw7]; exact (A6.out.drewN nq).far (fun h => hwx h.symm) _
      have E7 := Lib.hid (show Below w3.heap.size w3 w7 by rw [← hw7]; exact (below_drewN E6.out nq).setCell (by exact hg3) _)
      have W8 := Lib.hid (show Wr w7 (w.heap.size + 1) w7.heap.size (some ⟨gd, 0, none⟩) (1 + n) (((wr_ :: xs).set (0) ((i : Int) % sy)).map i64) by
        rw [← hw7, List.map_set]
        have hq : Wr (w6.drewN nq) w3.heap.size w6.heap.size (some ⟨gd, 0, none⟩) (1 + n) ((wr_ :: xs).map i64) := W6.out
        have := hq.set hk (i64 ((i : Int) % sy))
        rw [head_add] at this
        exact this.wider (by omega) (by simp))
      have M7 := M6.out
      have m7 : w7.cell? ⟨g, 0, none⟩ = some (i64 sy) := keepc E7.out M3.out.c0
      have x0 : w7.cell? ⟨w.heap.size, 0, none⟩ = some (i64 0) := bA.cell 0
      have x1 : w7.cell? ⟨w.heap.size, 1, none⟩ = some (i64 0) := bA.cell 1
      have x2 : w7.cell? ⟨w.heap.size, 2, none⟩ = some (.slice none 0 0) := bA.cell 2
      have z0 := bA.frozen 0; have z1 := bA.frozen 1; have z2 := bA.frozen 2
      clear b0 m0 hcc hf M7
      go_wp2_with fail
      refine bodyPost_ret (v := .tuple #[.agg #[i64 ((i : Int) / sy), i64 0, .slice (some ⟨gd, 0, none⟩) (1 + n) cap6], .bool true]) (by simp [results, Try.results111, go_sem, x0, x1, x2]) rfl ?_
      rw [HRF.out]
      exact PrOut.good HN.out W8.out (Nat.le_refl _) (below_chain E3.out E3.out.size E7.out)
    · have HR4 := Lib.hid (show R = if hh = (n : Int) then some ((i : Int) / sy, hh, xs ++ [(i : Int) % sy]) else if xs.getD hh.toNat 0 ≠ wr_ then none else some ((i : Int) / sy, hh, xs.set hh.toNat ((i : Int) % sy)) by rw [HR3.out, if_neg k2])
      have k2b : decide (hh < 0) = false := decide_eq_false k2
      obtain ⟨hN, rfl⟩ := Int.eq_ofNat_of_zero_le (show 0 ≤ hh by omega)
      clear HR3
      by_cases k3 : hN = n
      · have HRF := Lib.hid (show R = some ((i : Int) / sy, (hN : Int), (xs ++ [wr_]).set hN ((i : Int) % sy)) by
          rw [HR4.out, if_pos (by rw [k3]), List.set_append_right _ _ (by rw [HL.out, k3]; exact Nat.le_refl _), k3, HL.out, Nat.sub_self]; rfl)
        have k3b : ((hN : Int) == (n : Int)) = true := by simp [k3]
        have HV := Lib.hid (show (xs ++ [wr_])[hN]? = some wr_ by rw [List.getElem?_append_right (by rw [HL.out]; omega), HL.out, k3, Nat.sub_self]; rfl)
        have HN := Lib.hid (show n + 1 = ((xs ++ [wr_]).set hN ((i : Int) % sy)).length by rw [List.length_set, List.length_append, HL.out]; rfl)
        have hk : hN < n + 1 := by omega
        clear HR4 k2 k3
        go_wp2_with (at_builtin; refine wp_app1 (by rfl) _ _ 25 2 (.int .i64 0) 8 (by rfl) Try.underlying25 info_i64 rfl w3.heap.size (some ⟨gc, 0, none⟩) n cap (xs.map i64) (by rfl) (by exact O5.out.alloc _) w4.heap.size (i64 wr_) (by rfl) (by exact new_cell _ _ _ 0) rfl (by omega) (by omega) (by simp; omega) ?_; intro gd cap6 w6 own6 hb6 hk6 hg6 hz6)
        have O6 := Lib.hid (show Own w6 w3.heap.size 2 1 (some ⟨gd, 0, none⟩) (n + 1) cap6 ((xs ++ [wr_]).map i64) by rw [List.map_append]; exact own6)
        have E6 := Lib.hid (E5.out.trans ((below_size.alloc (Nat.le_refl _) (.cells #[i64 wr_] 2)).mono hz5 |>.trans hb6))
        clear own6 hb6 hk6 hg6 hz6 O5 b0 B5 hz5 hc1
        have W6 := Lib.hid O6.out.wr
        have B6 := Lib.hid (B3.out.keep E6.out); have A6 := Lib.hid (A3.out.keep E6.out); have M6 := Lib.hid (M3.out.below E6.out)
        have b0 := B6.out.cell 0; have m0 := M6.out.c0
        simp at b0
        have hz6 := E6.out.size
        obtain ⟨_, v, ea, hg1, hg2, _, hv, hcc, hf⟩ := W6.out.at_ hk
        injection ea with ea; subst ea
        have hg3 : w3.heap.size ≤ gd := hg1
        have hg4 : gd < w6.heap.size := hg2
        rw [List.getElem?_map, HV.out] at hv
        injection hv with hv; subst hv
        rw [head_add] at hcc hf
        have hcc0 : w6.cell? ⟨gd, hN, none⟩ = some (i64 wr_) := hcc
        have W7 := Lib.hid (W6.out.set hk (i64 ((i : Int) % sy)))
        rw [head_add] at W7
        go_quiet (fail)
        have hcd : (w6.drewN nq).cell? ⟨gd, hN, none⟩ = some (i64 wr_) := hcc
        have hfd : (w6.drewN nq).frozen? ⟨gd, hN, none⟩ = false := hf
        have md : (w6.drewN nq).cell? ⟨g, 0, none⟩ = some (i64 sy) := m0
        obtain ⟨w7, hw7⟩ : ∃ w7, (w6.drewN nq).setCell ⟨gd, hN, none⟩ (i64 ((i : Int) % sy)) = w7 := ⟨_, rfl⟩
        have hwx : gd ≠ w.heap.size := by omega
        have bA : Blk w7 w.heap.size 48 #[i64 0, i64 0, .slice none 0 0] := by rw [← hw7]; exact (A6.out.drewN nq).far (fun h => hwx h.symm) _
        have E7 := Lib.hid (show Below w3.heap.size w3 w7 by rw [← hw7]; exact (below_drewN E6.out nq).setCell (by exact hg3) _)
        have W8 := Lib.hid (show Wr w7 (w.heap.size + 1) w7.heap.size (some ⟨gd, 0, none⟩) (n + 1) (((xs ++ [wr_]).set (hN) ((i : Int) % sy)).map i64) by
          rw [← hw7, List.map_set]
          have hq : Wr (w6.drewN nq) w3.heap.size w6.heap.size (some ⟨gd, 0, none⟩) (n + 1) ((xs ++ [wr_]).map i64) := W6.out
          have := hq.set hk (i64 ((i : Int) % sy))
          rw [head_add] at this
          exact this.wider (by omega) (by simp))
        have M7 := M6.out
        have m7 : w7.cell? ⟨g, 0, none⟩ = some (i64 sy) := keepc E7.out M3.out.c0
        have x0 : w7.cell? ⟨w.heap.size, 0, none⟩ = some (i64 0) := bA.cell 0
        have x1 : w7.cell? ⟨w.heap.size, 1, none⟩ = some (i64 0) := bA.cell 1
        have x2 : w7.cell? ⟨w.heap.size, 2, none⟩ = some (.slice none 0 0) := bA.cell 2
        have z0 := bA.frozen 0; have z1 := bA.frozen 1; have z2 := bA.frozen 2
        clear b0 m0 hcc hf M7
        go_wp2_with fail
        refine bodyPost_ret (v := .tuple #[.agg #[i64 ((i : Int) / sy), i64 hN, .slice (some ⟨gd, 0, none⟩) (n + 1) cap6], .bool true]) (by simp [results, Try.results111, go_sem, x0, x1, x2]) rfl ?_
        rw [HRF.out]
        exact PrOut.good HN.out W8.out (Nat.le_refl _) (below_chain E3.out E3.out.size E7.out)
      · have k3b : ((hN : Int) == (n : Int)) = false := by simp; omega
        have hk : hN < n := by omega
        obtain ⟨xv, hxv⟩ : ∃ xv, xs[hN]? = some xv := ⟨_, List.getElem?_eq_getElem (by rw [HL.out]; exact hk)⟩
        have HR5 := Lib.hid (show R = if xv ≠ wr_ then none else some ((i : Int) / sy, (hN : Int), xs.set hN ((i : Int) % sy)) by rw [HR4.out, if_neg (by omega), show ((hN : Int)).toNat = hN by omega, getD_at hxv])
        have O6 := Lib.hid O5.out
        have E6 := Lib.hid E5.out
        clear HR4 k2 k3
        by_cases k4 : xv = wr_
        · have HRF := Lib.hid (show R = some ((i : Int) / sy, (hN : Int), xs.set hN ((i : Int) % sy)) by rw [HR5.out, if_neg (fun h => h k4)])
          have HV := Lib.hid (show xs[hN]? = some wr_ by rw [hxv, k4])
          have HN := Lib.hid (show n = (xs.set hN ((i : Int) % sy)).length by rw [List.length_set, HL.out])
          obtain ⟨w6, rfl⟩ : ∃ w6 : World, w6 = w4 := ⟨_, rfl⟩
          clear HR5 k4 hxv b0 B5 hz5 O5 E5 hc1
          go_wp2_with fail
          have W6 := Lib.hid O6.out.wr
          have B6 := Lib.hid (B3.out.keep E6.out); have A6 := Lib.hid (A3.out.keep E6.out); have M6 := Lib.hid (M3.out.below E6.out)
          have b0 := B6.out.cell 0; have m0 := M6.out.c0
          simp at b0
          have hz6 := E6.out.size
          obtain ⟨_, v, ea, hg1, hg2, _, hv, hcc, hf⟩ := W6.out.at_ hk
          injection ea with ea; subst ea
          have hg3 : w3.heap.size ≤ gc := hg1
          have hg4 : gc < w6.heap.size := hg2
          rw [List.getElem?_map, HV.out] at hv
          injection hv with hv; subst hv
          rw [head_add] at hcc hf
          have hcc0 : w6.cell? ⟨gc, hN, none⟩ = some (i64 wr_) := hcc
          have W7 := Lib.hid (W6.out.set hk (i64 ((i : Int) % sy)))
          rw [head_add] at W7
          go_quiet (fail)
          have hcd : (w6.drewN nq).cell? ⟨gc, hN, none⟩ = some (i64 wr_) := hcc
          have hfd : (w6.drewN nq).frozen? ⟨gc, hN, none⟩ = false := hf
          have md : (w6.drewN nq).cell? ⟨g, 0, none⟩ = some (i64 sy) := m0
          obtain ⟨w7, hw7⟩ : ∃ w7, (w6.drewN nq).setCell ⟨gc, hN, none⟩ (i64 ((i : Int) % sy)) = w7 := ⟨_, rfl⟩
          have hwx : gc ≠ w.heap.size := by omega
          have bA : Blk w7 w.heap.size 48 #[i64 0, i64 0, .slice none 0 0] := by rw [← hw7]; exact (A6.out.drewN nq).far (fun h => hwx h.symm) _
          have E7 := Lib.hid (show Below w3.heap.size w3 w7 by rw [← hw7]; exact (below_drewN E6.out nq).setCell (by exact hg3) _)
          have W8 := Lib.hid (show Wr w7 (w.heap.size + 1) w7.heap.size (some ⟨gc, 0, none⟩) (n) ((xs.set (hN) ((i : Int) % sy)).map i64) by
            rw [← hw7, List.map_set]
            have hq : Wr (w6.drewN nq) w3.heap.size w6.heap.size (some ⟨gc, 0, none⟩) (n) (xs.map i64) := W6.out
            have := hq.set hk (i64 ((i : Int) % sy))
            rw [head_add] at this
            exact this.wider (by omega) (by simp))
          have M7 := M6.out
          have m7 : w7.cell? ⟨g, 0, none⟩ = some (i64 sy) := keepc E7.out M3.out.c0
          have x0 : w7.cell? ⟨w.heap.size, 0, none⟩ = some (i64 0) := bA.cell 0
          have x1 : w7.cell? ⟨w.heap.size, 1, none⟩ = some (i64 0) := bA.cell 1
          have x2 : w7.cell? ⟨w.heap.size, 2, none⟩ = some (.slice none 0 0) := bA.cell 2
          have z0 := bA.frozen 0; have z1 := bA.frozen 1; have z2 := bA.frozen 2
          clear b0 m0 hcc hf M7
          go_wp2_with fail
          refine bodyPost_ret (v := .tuple #[.agg #[i64 ((i : Int) / sy), i64 hN, .slice (some ⟨gc, 0, none⟩) (n) cap], .bool true]) (by simp [results, Try.results111, go_sem, x0, x1, x2]) rfl ?_
          rw [HRF.out]
          exact PrOut.good HN.out W8.out (Nat.le_refl _) (below_chain E3.out E3.out.size E7.out)
        · have HRF := Lib.hid (show R = none by rw [HR5.out, if_pos k4])
          have k4b : (xv != wr_) = true := by simpa using k4
          have W6 := Lib.hid O6.out.wr
          obtain ⟨_, v, ea, hg1, hg2, _, hv, hcc, hf⟩ := W6.out.at_ hk
          injection ea with ea; subst ea
          rw [List.getElem?_map, hxv] at hv
          injection hv with hv; subst hv
          rw [head_add] at hcc
          have A6 := Lib.hid (A3.out.keep E6.out)
          clear HR5 k4 hxv B5 hz5 O5 E5 hc1 hf
          go_wp2_with fail
          go_quiet (fail)
          have bA := A6.out.drewN nq
          have x0 : (w4.drewN nq).cell? ⟨w.heap.size, 0, none⟩ = some (i64 0) := bA.cell 0
          have x1 : (w4.drewN nq).cell? ⟨w.heap.size, 1, none⟩ = some (i64 0) := bA.cell 1
          have x2 : (w4.drewN nq).cell? ⟨w.heap.size, 2, none⟩ = some (.slice none 0 0) := bA.cell 2
          have z0 := bA.frozen 0; have z1 := bA.frozen 1; have z2 := bA.frozen 2
          have EZ := below_drewN (below_chain E3.out E3.out.size E6.out) nq
          go_wp2_with fail
          refine bodyPost_ret (v := .tuple #[.agg #[i64 0, i64 0, .slice none 0 0], .bool false]) (by simp [results, Try.results111, go_sem, x0, x1, x2]) rfl ?_
          rw [HRF.out]
          exact PrOut.bad (by repeat' (first | exact EZ | refine Below.setCell ?_ (by exact Nat.le_refl _) _))
  · have HF := Lib.hid (show R = none by rw [HR2.out, if_pos (by simpa using HU.out)])
    have bA := XA.out.keep em
    have x0 := bA.cell 0; have x1 := bA.cell 1; have x2 := bA.cell 2; have z0 := bA.frozen 0; have z1 := bA.frozen 1; have z2 := bA.frozen 2
    simp at x0 x1 x2
    go_wp2_with fail
    refine bodyPost_ret (v := .tuple #[.agg #[i64 0, i64 0, .slice none 0 0], .bool false]) (by simp [results, Try.results111, go_sem, x0, x1, x2]) rfl ?_
    rw [HF.out]
    exact PrOut.bad ((by have hzz := (below_chain EB.out EB.out.size em).size; repeat' (first | (with_reducible exact below_chain EB.out EB.out.size em) | (with_reducible refine Below.alloc ?_ ?_ _) | (with_reducible refine Below.setCell ?_ ?_ _) | (with_reducible refine below_drew ?_) | omega | (simp; done) | (simp; omega))))
end Go.Proofs.Ytfahdgmlhinabaa
