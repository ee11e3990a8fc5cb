/-
  Contracts of chapter 22: renaming the variables of one command.
-/
import Derived.Test.YtecpbgmcednpoaaCWh
import Derived.Test.YtecpbgmcednpoaaMix
namespace Go.Proofs.Ytecpbgmcednpoaa
open Go.RowKit

theorem flat2_set {M D : List (Int × Int)} {y : Int × Int} {k : Nat} (hk : M.length = k) (v : Int) : ((M ++ y :: D).flatMap enc2).set (k * 2 + 1) (i64 v) = (M ++ (y.1, v) :: D).flatMap enc2 := by
  rw [List.flatMap_append, List.set_append_right _ _ (by rw [flatX_len enc2 2 enc2_len, hk]; omega), flatX_len enc2 2 enc2_len, hk, Nat.add_sub_cancel_left, List.flatMap_cons, List.flatMap_append, List.flatMap_cons]
  rfl
set_option maxHeartbeats 4000000 in
set_option maxRecDepth 100000 in
theorem renameWhile1_c (os : List Int) (pb : Nat) (OA : Option Addr) (on oc : Nat) (kd vr ln : Int) (xA : Option Addr) (n xc : Nat) (xs : List (Int × Int)) (w : World) (hp : w.cell? ⟨pb, 0, none⟩ = some (.slice OA on oc)) (ho : RdI w OA on os) (hos : orderB os = true)
    (h : Rd2 w xA n xs) (hv : validE xs = true) (hvr : inB vr 0 5 = true) :
    Calls Try.prog 36 #[.agg #[.int .i64 kd, .int .i64 vr, .int .i64 ln, .slice xA n xc], .pointer (some ⟨pb, 0, none⟩)] w (CmdOut (renC os (kd, vr, ln, xs)) w) := by
  obtain ⟨hv1, hv2, hv3, hv4⟩ := validE_end hv
  have hl := h.len
  rw [hl] at hv2 hv3
  obtain ⟨ad, rfl, hab, _⟩ := h.2 (by omega)
  obtain ⟨ho1, ho2⟩ := orderB_t hos
  have hon := ho.len
  rw [ho1] at hon
  subst hon
  have hvb := inB_t hvr
  obtain ⟨v, rfl⟩ : ∃ v : Nat, vr = v := ⟨vr.toNat, by omega⟩
  have hpb : pb < w.heap.size := World.block_lt_of_cell? w _ hp
  obtain ⟨ao, ov, rfl, hao, hov, hoc⟩ := ho.at_ (k := v) (by omega)
  have H := Lib.hid h; have HO := Lib.hid ho; have HL := Lib.hid hl; have HV := Lib.hid hv4
  obtain ⟨w2, hw2⟩ : ∃ w2, (w.alloc (.cells #[.int .i64 kd, .int .i64 v, .int .i64 ln, .slice (some ad) n xc] 46)).alloc (.cells #[.int .i64 0, .int .i64 0, .int .i64 0, .slice none 0 0] 46) = w2 := ⟨_, rfl⟩
  have hz2 : w2.heap.size = w.heap.size + 2 := by rw [← hw2]; simp
  have E2 := Lib.hid (show Below w.heap.size w w2 by rw [← hw2]; exact (below_size.alloc (Nat.le_refl _) _).alloc (by simp) _)
  have K2 := Lib.hid (show Blk w2 w.heap.size 46 #[.int .i64 kd, .int .i64 v, .int .i64 ln, .slice (some ad) n xc] by rw [← hw2]; exact (Blk.new _ _ _).alloc _)
  have Z2 := Lib.hid (show Blk w2 (w.heap.size + 1) 46 #[.int .i64 0, .int .i64 0, .int .i64 0, .slice none 0 0] by
    rw [← hw2]
    have := Blk.new (w.alloc (.cells #[.int .i64 kd, .int .i64 v, .int .i64 ln, .slice (some ad) n xc] 46)) 46 #[.int .i64 0, .int .i64 0, .int .i64 0, .slice none 0 0]
    rwa [show (w.alloc (.cells #[.int .i64 kd, .int .i64 v, .int .i64 ln, .slice (some ad) n xc] 46)).heap.size = w.heap.size + 1 from by simp] at this)
  have x0 : w2.cell? ⟨w.heap.size, 0, none⟩ = some (.int .i64 kd) := K2.out.cell 0
  have x1 : w2.cell? ⟨w.heap.size, 1, none⟩ = some (.int .i64 v) := K2.out.cell 1
  have x3 : w2.cell? ⟨w.heap.size, 3, none⟩ = some (.slice (some ad) n xc) := K2.out.cell 3
  have f1 := K2.out.frozen 1
  have f3 := K2.out.frozen 3
  have p2 : w2.cell? ⟨pb, 0, none⟩ = some (.slice (some ao) 6 oc) := keepc E2.out hp
  have o2 := keepc E2.out hoc
  have HR := Lib.hid (show renC os (kd, (v : Int), ln, xs) = (kd, if kd = 0 then ov else (v : Int), ln, xs.map (renX os)) by
    show (kd, (if kd = 0 then atO os (v : Int) else (v : Int)), ln, xs.map (renX os)) = _
    rw [atO_at hov])
  rw [HR.out]
  have HP := Lib.hid hp; have HOS := Lib.hid hos
  have hv6 : v < 6 := by omega
  clear h ho hl hv hv4 hp hoc hov hvr hv1 hos
  by_cases hk0 : kd = 0
  · subst hk0
    rw [if_pos rfl]
    obtain ⟨w3, hw3⟩ : ∃ w3, w2.setCell ⟨w.heap.size, 1, none⟩ (.int .i64 ov) = w3 := ⟨_, rfl⟩
    have hz3 : w3.heap.size = w.heap.size + 2 := by rw [← hw3, World.size_setCell, hz2]
    have E3 := Lib.hid (show Below w.heap.size w w3 by rw [← hw3]; exact E2.out.setCell (Nat.le_refl _) _)
    have K3 := Lib.hid (show Blk w3 w.heap.size 46 #[.int .i64 0, .int .i64 ov, .int .i64 ln, .slice (some ad) n xc] by rw [← hw3]; exact K2.out.set_ 1 _)
    have Z3 := Lib.hid (show Blk w3 (w.heap.size + 1) 46 #[.int .i64 0, .int .i64 0, .int .i64 0, .slice none 0 0] by rw [← hw3]; exact Z2.out.far (by show w.heap.size + 1 ≠ w.heap.size; omega) _)
    have y3 : w3.cell? ⟨w.heap.size, 3, none⟩ = some (.slice (some ad) n xc) := K3.out.cell 3
    go_enter Try.func36, Try.ntmps36
    go_wp2_with fail
    refine (cloneExpr_c ad n xc xs w3 (by exact H.out.below E3.out) (by omega)).mono ?_
    rintro e w4 ⟨A4, c4, rfl, hw4, hc4, hb4⟩
    obtain ⟨ad4, rfl, hlo4, _, _, _⟩ := hw4.2 (by omega)
    have E4 := Lib.hid (below_chain E3.out (by omega) hb4)
    have K4 := Lib.hid (K3.out.below hb4 (by omega)); have Z4 := Lib.hid (Z3.out.below hb4 (by omega))
    have hz4 := hb4.size
    have y4 : w4.cell? ⟨w.heap.size, 3, none⟩ = some (.slice (some ad) n xc) := K4.out.cell 3
    have f4 := K4.out.frozen 3
    obtain ⟨w5, hw5⟩ : ∃ w5, w4.setCell ⟨w.heap.size, 3, none⟩ (.slice (some ad4) n c4) = w5 := ⟨_, rfl⟩
    have hz5 : w5.heap.size = w4.heap.size := by rw [← hw5, World.size_setCell]
    have E5 := Lib.hid (show Below w.heap.size w w5 by rw [← hw5]; exact E4.out.setCell (Nat.le_refl _) _)
    have K5 := Lib.hid (show Blk w5 w.heap.size 46 #[.int .i64 0, .int .i64 ov, .int .i64 ln, .slice (some ad4) n c4] by rw [← hw5]; exact K4.out.set_ 3 _)
    have Z5 := Lib.hid (show Blk w5 (w.heap.size + 1) 46 #[.int .i64 0, .int .i64 0, .int .i64 0, .slice none 0 0] by rw [← hw5]; exact Z4.out.far (by show w.heap.size + 1 ≠ w.heap.size; omega) _)
    have W5 := Lib.hid (show Wr w5 (w.heap.size + 2) w5.heap.size (some ad4) (n * 2) (xs.flatMap enc2) by rw [← hw5, World.size_setCell, ← hz3]; exact hw4.set_far (.inl (by show w.heap.size < w3.heap.size; omega)) _)
    have y5 : w5.cell? ⟨w.heap.size, 3, none⟩ = some (.slice (some ad4) n c4) := K5.out.cell 3
    clear hw4 hb4
    go_wp2_with fail
    go_loopw [22] (fun iv wr => ∃ k : Nat, k ≤ n ∧ iv = .int .i64 k ∧ Hid (Blk wr w.heap.size 46 #[.int .i64 0, .int .i64 ov, .int .i64 ln, .slice (some ad4) n c4]) ∧ Hid (Blk wr (w.heap.size + 1) 46 #[.int .i64 0, .int .i64 0, .int .i64 0, .slice none 0 0]) ∧ Hid (Wr wr (w.heap.size + 2) w5.heap.size (some ad4) (n * 2) (((xs.take k).map (renX os) ++ xs.drop k).flatMap enc2)) ∧ Below w.heap.size w wr ∧ w5.heap.size ≤ wr.heap.size) (fun iv _ => n - (intOf iv).toNat)
    case atStart => exact ⟨0, by omega, rfl, K5.out, Z5.out, by simpa [Hid] using W5.out, E5.out, Nat.le_refl _⟩
    case round =>
      obtain ⟨k, hk, rfl, hK, hZ, hW, hb, hzw⟩ := hrel
      have HB := Lib.hid hb
      have hzb := hb.size
      by_cases hlt : k < n
      · have hmk : ((xs.take k).map (renX os)).length = k := by rw [List.length_map, List.length_take, HL.out]; omega
        obtain ⟨y, hy⟩ : ∃ y, xs[k]? = some y := ⟨_, List.getElem?_eq_getElem (by rw [HL.out]; exact hlt)⟩
        have hoky : okE y = true := List.all_eq_true.1 HV.out _ (List.mem_of_getElem? hy)
        have hW1 := hW.out
        rw [drop_at hy] at hW1
        have hR1 : Rd2 wr (some ad4) n ((xs.take k).map (renX os) ++ y :: xs.drop (k + 1)) := hW1.rd
        obtain ⟨_, y', e', hab4, hy', hc0, hc1⟩ := hR1.at_ hlt
        injection e' with e'; subst e'
        rw [List.getElem?_append_right (by omega), hmk, Nat.sub_self, List.getElem?_cons_zero] at hy'
        injection hy' with hy'; subst hy'
        obtain ⟨_, _, e', hlo, hhi, _, _, _, hf⟩ := hW1.at_ (k := k * 2 + 1) (by omega)
        injection e' with e'; subst e'
        have HTK := Lib.hid (take_at hy)
        obtain ⟨t, u0⟩ := y
        have hub := okE_var hoky
        simp only at hub hc0 hc1
        obtain ⟨u, rfl⟩ : ∃ u : Nat, u0 = u := ⟨u0.toNat, by omega⟩
        have hu6 : u < 6 := by omega
        obtain ⟨ao', ou, eo, hao', hou, hoc⟩ := (HO.out.below hb).at_ (k := u) hu6
        injection eo with eo; subst eo
        have a1 : (⟨(ad4.add (k * 2)).block, (ad4.add (k * 2)).off + 1, none⟩ : Addr) = ad4.add (k * 2 + 1) := next_off ad4 (k * 2) 0
        by_cases h1 : t = 1
        · subst h1
          have HRX := Lib.hid (show renX os (1, (u : Int)) = (1, ou) by show (1, if (1 : Int) = 1 then atO os (u : Int) else (u : Int)) = _; rw [if_pos rfl, atO_at hou])
          obtain ⟨w6, hw6⟩ : ∃ w6, wr.alloc (.cells #[.int .i64 1, .int .i64 u] 49) = w6 := ⟨_, rfl⟩
          have x0 : w6.cell? ⟨wr.heap.size, 0, none⟩ = some (.int .i64 1) := by rw [← hw6]; exact new_cell _ _ _ 0
          have x1 : w6.cell? ⟨wr.heap.size, 1, none⟩ = some (.int .i64 u) := by rw [← hw6]; exact new_cell _ _ _ 1
          have B6 := Lib.hid (show Below wr.heap.size wr w6 by rw [← hw6]; exact below_size.alloc (Nat.le_refl _) _)
          have hz6 := B6.out.size
          have k6 : w6.cell? ⟨w.heap.size, 3, none⟩ = some (.slice (some ad4) n c4) := keepc B6.out (hK.out.cell 3)
          have p6 : w6.cell? ⟨pb, 0, none⟩ = some (.slice (some ao) 6 oc) := keepc B6.out (keepc hb HP.out)
          have o6 := keepc B6.out hoc
          have hc6 := keepc B6.out hc1
          have hf6 : w6.frozen? (ad4.add (k * 2 + 1)) = false := (B6.out.frozen (p := ad4.add (k * 2 + 1)) (by rw [block_add]; exact hab4)).trans hf
          have W6 := Lib.hid ((hW1.below B6.out).set (k := k * 2 + 1) (by omega) (i64 ou))
          rw [← a1] at hf6 W6
          rw [flat2_set hmk] at W6
          have K6 := Lib.hid (hK.out.below B6.out (by omega)); have Z6 := Lib.hid (hZ.out.below B6.out (by omega))
          have hbk : w.heap.size + 2 ≤ (ad4.add (k * 2)).block := by rw [block_add]; exact hlo
          have z0 := Ext.cell k6; have z1 := Ext.cell p6; have z2 := Ext.cell x1; have z3 := Ext.cell o6
          clear hW hW1 hR1 hK hZ hy hoky hf hou hb a1
          go_wp2_with fail
          refine Mix.wp_region_mix [0, 3, 0, 3, 0, 3, 0, 3, 0, 0, 2] (fun w' => ∃ x : Ext w6, w' = x.w) (by kernel_rfl) (by kernel_rfl) (InExt.drew _) ?_
          repeat (first | (refine Mix.wpMix_read (by rfl) ?_; go_big_quiet_step (fail); refine wpQuiet_nil ?_) | (refine Mix.wpMix_pure (by rfl) ?_; go_big_quiet_step (fail); refine wpQuiet_nil ?_))
          refine Mix.wpMix_tail (by rfl) (fun K hK => ?_)
          go_wp2_with fail
          refine hK _ _ ?_
          clear hK K
          (refine Mix.wpMix_nil ?_; try simp only [Exit.then])
          go_wp2_with fail
          go_roundw
          case rel =>
            refine ⟨k + 1, by omega, by go_num, K6.out.far (by show w.heap.size ≠ (ad4.add (k * 2)).block; omega) _, Z6.out.far (by show w.heap.size + 1 ≠ (ad4.add (k * 2)).block; omega) _, ?_, (below_chain HB.out hzb (below_drew B6.out)).setCell (by show w.heap.size ≤ (ad4.add (k * 2)).block; omega) _, by show w5.heap.size ≤ (w6.setCell _ _).heap.size; rw [World.size_setCell]; exact Nat.le_trans hzw hz6⟩
            show Wr _ _ _ _ _ _
            rw [HTK.out, List.map_append, List.map_singleton, HRX.out, List.append_assoc, List.singleton_append]
            exact W6.out
          case measure => simp [intOf]; omega
        · have g1 : (t == 1) = false := by simpa using h1
          have HRX := Lib.hid (show renX os (t, (u : Int)) = (t, (u : Int)) by show (t, if t = 1 then atO os (u : Int) else (u : Int)) = _; rw [if_neg h1])
          have W6 := Lib.hid hW1
          clear hW hW1 hR1 hy hoky hf hou hb a1
          go_wp2_with fail
          go_roundw
          case rel =>
            refine ⟨k + 1, by omega, by go_num, hK.out.alloc _, hZ.out.alloc _, ?_, HB.out.alloc hzb _, by simp; omega⟩
            show Wr _ _ _ _ _ _
            rw [HTK.out, List.map_append, List.map_singleton, HRX.out, List.append_assoc, List.singleton_append]
            exact W6.out.alloc _
          case measure => simp [intOf]; omega
      · obtain rfl : k = n := by omega
        have W6 := Lib.hid (show Wr wr (w.heap.size + 2) w5.heap.size (some ad4) (k * 2) ((xs.map (renX os)).flatMap enc2) by
          have := hW.out
          rwa [List.take_of_length_le (by rw [HL.out]; exact Nat.le_refl _), List.drop_eq_nil_of_le (by rw [HL.out]; exact Nat.le_refl _), List.append_nil] at this)
        have q0 : wr.cell? ⟨w.heap.size, 0, none⟩ = some (.int .i64 0) := hK.out.cell 0
        have q1 : wr.cell? ⟨w.heap.size, 1, none⟩ = some (.int .i64 ov) := hK.out.cell 1
        have q2 : wr.cell? ⟨w.heap.size, 2, none⟩ = some (.int .i64 ln) := hK.out.cell 2
        have q3 : wr.cell? ⟨w.heap.size, 3, none⟩ = some (.slice (some ad4) k c4) := hK.out.cell 3
        have r0 : wr.cell? ⟨w.heap.size + 1, 0, none⟩ = some (.int .i64 0) := hZ.out.cell 0
        have r1 : wr.cell? ⟨w.heap.size + 1, 1, none⟩ = some (.int .i64 0) := hZ.out.cell 1
        have r2 : wr.cell? ⟨w.heap.size + 1, 2, none⟩ = some (.int .i64 0) := hZ.out.cell 2
        have r3 : wr.cell? ⟨w.heap.size + 1, 3, none⟩ = some (.slice none 0 0) := hZ.out.cell 3
        have s0 := hZ.out.frozen 0; have s1 := hZ.out.frozen 1; have s2 := hZ.out.frozen 2; have s3 := hZ.out.frozen 3
        clear hb hW
        go_wp2_with fail
        obtain ⟨wE, hwE⟩ : ∃ wE, (((wr.setCell ⟨w.heap.size + 1, 0, none⟩ (.int .i64 0)).setCell ⟨w.heap.size + 1, 1, none⟩ (.int .i64 ov)).setCell ⟨w.heap.size + 1, 2, none⟩ (.int .i64 ln)).setCell ⟨w.heap.size + 1, 3, none⟩ (.slice (some ad4) k c4) = wE := ⟨_, rfl⟩
        rw [hwE]
        have ZE : Blk wE (w.heap.size + 1) 46 #[.int .i64 0, .int .i64 ov, .int .i64 ln, .slice (some ad4) k c4] := by rw [← hwE]; exact (((hZ.out.set_ 0 _).set_ 1 _).set_ 2 _).set_ 3 _
        have BE : Below w.heap.size w wE := by rw [← hwE]; exact (((HB.out.setCell (by show w.heap.size ≤ w.heap.size + 1; omega) _).setCell (by show w.heap.size ≤ w.heap.size + 1; omega) _).setCell (by show w.heap.size ≤ w.heap.size + 1; omega) _).setCell (by show w.heap.size ≤ w.heap.size + 1; omega) _
        have WE : Wr wE w.heap.size wE.heap.size (some ad4) (k * 2) ((xs.map (renX os)).flatMap enc2) := by
          rw [← hwE]
          simp only [World.size_setCell]
          exact ((((W6.out.set_far (.inl (by show w.heap.size + 1 < w.heap.size + 2; omega)) _).set_far (.inl (by show w.heap.size + 1 < w.heap.size + 2; omega)) _).set_far (.inl (by show w.heap.size + 1 < w.heap.size + 2; omega)) _).set_far (.inl (by show w.heap.size + 1 < w.heap.size + 2; omega)) _).wider (by omega) hzw
        have e0 : wE.cell? ⟨w.heap.size + 1, 0, none⟩ = some (.int .i64 0) := ZE.cell 0
        have e1 : wE.cell? ⟨w.heap.size + 1, 1, none⟩ = some (.int .i64 ov) := ZE.cell 1
        have e2 : wE.cell? ⟨w.heap.size + 1, 2, none⟩ = some (.int .i64 ln) := ZE.cell 2
        have e3 : wE.cell? ⟨w.heap.size + 1, 3, none⟩ = some (.slice (some ad4) k c4) := ZE.cell 3
        refine bodyPost_ret (v := .agg #[.int .i64 0, .int .i64 ov, .int .i64 ln, .slice (some ad4) k c4]) (by simp [results, Try.results36, go_sem, e0, e1, e2, e3]) rfl ?_
        exact ⟨⟨0, ov, ln, some ad4, k, c4, xs.map (renX os)⟩, rfl, rfl, WE, by show k ≤ 1000000; omega, hc4, BE⟩
  · have g0 : (kd == 0) = false := by simpa using hk0
    rw [if_neg hk0]
    go_enter Try.func36, Try.ntmps36
    go_wp2_with fail
    obtain ⟨w3, rfl⟩ : ∃ w3 : World, w3 = w2 := ⟨_, rfl⟩
    have hz3 := hz2; have E3 := Lib.hid E2.out; have K3 := Lib.hid K2.out; have Z3 := Lib.hid Z2.out
    refine (cloneExpr_c ad n xc xs w3 (by exact H.out.below E3.out) (by omega)).mono ?_
    rintro e w4 ⟨A4, c4, rfl, hw4, hc4, hb4⟩
    obtain ⟨ad4, rfl, hlo4, _, _, _⟩ := hw4.2 (by omega)
    have E4 := Lib.hid (below_chain E3.out (by omega) hb4)
    have K4 := Lib.hid (K3.out.below hb4 (by omega)); have Z4 := Lib.hid (Z3.out.below hb4 (by omega))
    have hz4 := hb4.size
    have y4 : w4.cell? ⟨w.heap.size, 3, none⟩ = some (.slice (some ad) n xc) := K4.out.cell 3
    have f4 := K4.out.frozen 3
    obtain ⟨w5, hw5⟩ : ∃ w5, w4.setCell ⟨w.heap.size, 3, none⟩ (.slice (some ad4) n c4) = w5 := ⟨_, rfl⟩
    have hz5 : w5.heap.size = w4.heap.size := by rw [← hw5, World.size_setCell]
    have E5 := Lib.hid (show Below w.heap.size w w5 by rw [← hw5]; exact E4.out.setCell (Nat.le_refl _) _)
    have K5 := Lib.hid (show Blk w5 w.heap.size 46 #[.int .i64 kd, .int .i64 (v : Int), .int .i64 ln, .slice (some ad4) n c4] by rw [← hw5]; exact K4.out.set_ 3 _)
    have Z5 := Lib.hid (show Blk w5 (w.heap.size + 1) 46 #[.int .i64 0, .int .i64 0, .int .i64 0, .slice none 0 0] by rw [← hw5]; exact Z4.out.far (by show w.heap.size + 1 ≠ w.heap.size; omega) _)
    have W5 := Lib.hid (show Wr w5 (w.heap.size + 2) w5.heap.size (some ad4) (n * 2) (xs.flatMap enc2) by rw [← hw5, World.size_setCell, ← hz3]; exact hw4.set_far (.inl (by show w.heap.size < w3.heap.size; omega)) _)
    have y5 : w5.cell? ⟨w.heap.size, 3, none⟩ = some (.slice (some ad4) n c4) := K5.out.cell 3
    clear hw4 hb4
    go_wp2_with fail
    go_loopw [22] (fun iv wr => ∃ k : Nat, k ≤ n ∧ iv = .int .i64 k ∧ Hid (Blk wr w.heap.size 46 #[.int .i64 kd, .int .i64 (v : Int), .int .i64 ln, .slice (some ad4) n c4]) ∧ Hid (Blk wr (w.heap.size + 1) 46 #[.int .i64 0, .int .i64 0, .int .i64 0, .slice none 0 0]) ∧ Hid (Wr wr (w.heap.size + 2) w5.heap.size (some ad4) (n * 2) (((xs.take k).map (renX os) ++ xs.drop k).flatMap enc2)) ∧ Below w.heap.size w wr ∧ w5.heap.size ≤ wr.heap.size) (fun iv _ => n - (intOf iv).toNat)
    case atStart => exact ⟨0, by omega, rfl, K5.out, Z5.out, by simpa [Hid] using W5.out, E5.out, Nat.le_refl _⟩
    case round =>
      obtain ⟨k, hk, rfl, hK, hZ, hW, hb, hzw⟩ := hrel
      have HB := Lib.hid hb
      have hzb := hb.size
      by_cases hlt : k < n
      · have hmk : ((xs.take k).map (renX os)).length = k := by rw [List.length_map, List.length_take, HL.out]; omega
        obtain ⟨y, hy⟩ : ∃ y, xs[k]? = some y := ⟨_, List.getElem?_eq_getElem (by rw [HL.out]; exact hlt)⟩
        have hoky : okE y = true := List.all_eq_true.1 HV.out _ (List.mem_of_getElem? hy)
        have hW1 := hW.out
        rw [drop_at hy] at hW1
        have hR1 : Rd2 wr (some ad4) n ((xs.take k).map (renX os) ++ y :: xs.drop (k + 1)) := hW1.rd
        obtain ⟨_, y', e', hab4, hy', hc0, hc1⟩ := hR1.at_ hlt
        injection e' with e'; subst e'
        rw [List.getElem?_append_right (by omega), hmk, Nat.sub_self, List.getElem?_cons_zero] at hy'
        injection hy' with hy'; subst hy'
        obtain ⟨_, _, e', hlo, hhi, _, _, _, hf⟩ := hW1.at_ (k := k * 2 + 1) (by omega)
        injection e' with e'; subst e'
        have HTK := Lib.hid (take_at hy)
        obtain ⟨t, u0⟩ := y
        have hub := okE_var hoky
        simp only at hub hc0 hc1
        obtain ⟨u, rfl⟩ : ∃ u : Nat, u0 = u := ⟨u0.toNat, by omega⟩
        have hu6 : u < 6 := by omega
        obtain ⟨ao', ou, eo, hao', hou, hoc⟩ := (HO.out.below hb).at_ (k := u) hu6
        injection eo with eo; subst eo
        have a1 : (⟨(ad4.add (k * 2)).block, (ad4.add (k * 2)).off + 1, none⟩ : Addr) = ad4.add (k * 2 + 1) := next_off ad4 (k * 2) 0
        by_cases h1 : t = 1
        · subst h1
          have HRX := Lib.hid (show renX os (1, (u : Int)) = (1, ou) by show (1, if (1 : Int) = 1 then atO os (u : Int) else (u : Int)) = _; rw [if_pos rfl, atO_at hou])
          obtain ⟨w6, hw6⟩ : ∃ w6, wr.alloc (.cells #[.int .i64 1, .int .i64 u] 49) = w6 := ⟨_, rfl⟩
          have x0 : w6.cell? ⟨wr.heap.size, 0, none⟩ = some (.int .i64 1) := by rw [← hw6]; exact new_cell _ _ _ 0
          have x1 : w6.cell? ⟨wr.heap.size, 1, none⟩ = some (.int .i64 u) := by rw [← hw6]; exact new_cell _ _ _ 1
          have B6 := Lib.hid (show Below wr.heap.size wr w6 by rw [← hw6]; exact below_size.alloc (Nat.le_refl _) _)
          have hz6 := B6.out.size
          have k6 : w6.cell? ⟨w.heap.size, 3, none⟩ = some (.slice (some ad4) n c4) := keepc B6.out (hK.out.cell 3)
          have p6 : w6.cell? ⟨pb, 0, none⟩ = some (.slice (some ao) 6 oc) := keepc B6.out (keepc hb HP.out)
          have o6 := keepc B6.out hoc
          have hc6 := keepc B6.out hc1
          have hf6 : w6.frozen? (ad4.add (k * 2 + 1)) = false := (B6.out.frozen (p := ad4.add (k * 2 + 1)) (by rw [block_add]; exact hab4)).trans hf
          have W6 := Lib.hid ((hW1.below B6.out).set (k := k * 2 + 1) (by omega) (i64 ou))
          rw [← a1] at hf6 W6
          rw [flat2_set hmk] at W6
          have K6 := Lib.hid (hK.out.below B6.out (by omega)); have Z6 := Lib.hid (hZ.out.below B6.out (by omega))
          have hbk : w.heap.size + 2 ≤ (ad4.add (k * 2)).block := by rw [block_add]; exact hlo
          have z0 := Ext.cell k6; have z1 := Ext.cell p6; have z2 := Ext.cell x1; have z3 := Ext.cell o6
          clear hW hW1 hR1 hK hZ hy hoky hf hou hb a1
          go_wp2_with fail
          refine Mix.wp_region_mix [0, 3, 0, 3, 0, 3, 0, 3, 0, 0, 2] (fun w' => ∃ x : Ext w6, w' = x.w) (by kernel_rfl) (by kernel_rfl) (InExt.drew _) ?_
          repeat (first | (refine Mix.wpMix_read (by rfl) ?_; go_big_quiet_step (fail); refine wpQuiet_nil ?_) | (refine Mix.wpMix_pure (by rfl) ?_; go_big_quiet_step (fail); refine wpQuiet_nil ?_))
          refine Mix.wpMix_tail (by rfl) (fun K hK => ?_)
          go_wp2_with fail
          refine hK _ _ ?_
          clear hK K
          (refine Mix.wpMix_nil ?_; try simp only [Exit.then])
          go_wp2_with fail
          go_roundw
          case rel =>
            refine ⟨k + 1, by omega, by go_num, K6.out.far (by show w.heap.size ≠ (ad4.add (k * 2)).block; omega) _, Z6.out.far (by show w.heap.size + 1 ≠ (ad4.add (k * 2)).block; omega) _, ?_, (below_chain HB.out hzb (below_drew B6.out)).setCell (by show w.heap.size ≤ (ad4.add (k * 2)).block; omega) _, by show w5.heap.size ≤ (w6.setCell _ _).heap.size; rw [World.size_setCell]; exact Nat.le_trans hzw hz6⟩
            show Wr _ _ _ _ _ _
            rw [HTK.out, List.map_append, List.map_singleton, HRX.out, List.append_assoc, List.singleton_append]
            exact W6.out
          case measure => simp [intOf]; omega
        · have g1 : (t == 1) = false := by simpa using h1
          have HRX := Lib.hid (show renX os (t, (u : Int)) = (t, (u : Int)) by show (t, if t = 1 then atO os (u : Int) else (u : Int)) = _; rw [if_neg h1])
          have W6 := Lib.hid hW1
          clear hW hW1 hR1 hy hoky hf hou hb a1
          go_wp2_with fail
          go_roundw
          case rel =>
            refine ⟨k + 1, by omega, by go_num, hK.out.alloc _, hZ.out.alloc _, ?_, HB.out.alloc hzb _, by simp; omega⟩
            show Wr _ _ _ _ _ _
            rw [HTK.out, List.map_append, List.map_singleton, HRX.out, List.append_assoc, List.singleton_append]
            exact W6.out.alloc _
          case measure => simp [intOf]; omega
      · obtain rfl : k = n := by omega
        have W6 := Lib.hid (show Wr wr (w.heap.size + 2) w5.heap.size (some ad4) (k * 2) ((xs.map (renX os)).flatMap enc2) by
          have := hW.out
          rwa [List.take_of_length_le (by rw [HL.out]; exact Nat.le_refl _), List.drop_eq_nil_of_le (by rw [HL.out]; exact Nat.le_refl _), List.append_nil] at this)
        have q0 : wr.cell? ⟨w.heap.size, 0, none⟩ = some (.int .i64 kd) := hK.out.cell 0
        have q1 : wr.cell? ⟨w.heap.size, 1, none⟩ = some (.int .i64 (v : Int)) := hK.out.cell 1
        have q2 : wr.cell? ⟨w.heap.size, 2, none⟩ = some (.int .i64 ln) := hK.out.cell 2
        have q3 : wr.cell? ⟨w.heap.size, 3, none⟩ = some (.slice (some ad4) k c4) := hK.out.cell 3
        have r0 : wr.cell? ⟨w.heap.size + 1, 0, none⟩ = some (.int .i64 0) := hZ.out.cell 0
        have r1 : wr.cell? ⟨w.heap.size + 1, 1, none⟩ = some (.int .i64 0) := hZ.out.cell 1
        have r2 : wr.cell? ⟨w.heap.size + 1, 2, none⟩ = some (.int .i64 0) := hZ.out.cell 2
        have r3 : wr.cell? ⟨w.heap.size + 1, 3, none⟩ = some (.slice none 0 0) := hZ.out.cell 3
        have s0 := hZ.out.frozen 0; have s1 := hZ.out.frozen 1; have s2 := hZ.out.frozen 2; have s3 := hZ.out.frozen 3
        clear hb hW
        go_wp2_with fail
        obtain ⟨wE, hwE⟩ : ∃ wE, (((wr.setCell ⟨w.heap.size + 1, 0, none⟩ (.int .i64 kd)).setCell ⟨w.heap.size + 1, 1, none⟩ (.int .i64 (v : Int))).setCell ⟨w.heap.size + 1, 2, none⟩ (.int .i64 ln)).setCell ⟨w.heap.size + 1, 3, none⟩ (.slice (some ad4) k c4) = wE := ⟨_, rfl⟩
        rw [hwE]
        have ZE : Blk wE (w.heap.size + 1) 46 #[.int .i64 kd, .int .i64 (v : Int), .int .i64 ln, .slice (some ad4) k c4] := by rw [← hwE]; exact (((hZ.out.set_ 0 _).set_ 1 _).set_ 2 _).set_ 3 _
        have BE : Below w.heap.size w wE := by rw [← hwE]; exact (((HB.out.setCell (by show w.heap.size ≤ w.heap.size + 1; omega) _).setCell (by show w.heap.size ≤ w.heap.size + 1; omega) _).setCell (by show w.heap.size ≤ w.heap.size + 1; omega) _).setCell (by show w.heap.size ≤ w.heap.size + 1; omega) _
        have WE : Wr wE w.heap.size wE.heap.size (some ad4) (k * 2) ((xs.map (renX os)).flatMap enc2) := by
          rw [← hwE]
          simp only [World.size_setCell]
          exact ((((W6.out.set_far (.inl (by show w.heap.size + 1 < w.heap.size + 2; omega)) _).set_far (.inl (by show w.heap.size + 1 < w.heap.size + 2; omega)) _).set_far (.inl (by show w.heap.size + 1 < w.heap.size + 2; omega)) _).set_far (.inl (by show w.heap.size + 1 < w.heap.size + 2; omega)) _).wider (by omega) hzw
        have e0 : wE.cell? ⟨w.heap.size + 1, 0, none⟩ = some (.int .i64 kd) := ZE.cell 0
        have e1 : wE.cell? ⟨w.heap.size + 1, 1, none⟩ = some (.int .i64 (v : Int)) := ZE.cell 1
        have e2 : wE.cell? ⟨w.heap.size + 1, 2, none⟩ = some (.int .i64 ln) := ZE.cell 2
        have e3 : wE.cell? ⟨w.heap.size + 1, 3, none⟩ = some (.slice (some ad4) k c4) := ZE.cell 3
        refine bodyPost_ret (v := .agg #[.int .i64 kd, .int .i64 (v : Int), .int .i64 ln, .slice (some ad4) k c4]) (by simp [results, Try.results36, go_sem, e0, e1, e2, e3]) rfl ?_
        exact ⟨⟨kd, (v : Int), ln, some ad4, k, c4, xs.map (renX os)⟩, rfl, rfl, WE, by show k ≤ 1000000; omega, hc4, BE⟩
end Go.Proofs.Ytecpbgmcednpoaa
