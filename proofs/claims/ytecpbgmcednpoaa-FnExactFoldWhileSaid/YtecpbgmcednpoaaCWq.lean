/-
  Contracts of chapter 22: FoldWhile of the program.
-/
import Derived.Test.YtecpbgmcednpoaaCWp
import Derived.Test.YtecpbgmcednpoaaCWn
namespace Go.Proofs.Ytecpbgmcednpoaa
open Go.RowKit

set_option maxHeartbeats 4000000 in
set_option maxRecDepth 100000 in
theorem foldWhile1_c (kd vr ln : Int) (xA : Option Addr) (n xc : Nat) (xs : List (Int × Int)) (w : World) (h : Rd2 w xA n xs) (hnc : n ≤ xc) (hv : validE xs = true) :
    Calls Try.prog 40 #[.agg #[.int .i64 kd, .int .i64 vr, .int .i64 ln, .slice xA n xc]] w (CmdOut (foldC (kd, vr, ln, xs)) w) := by
  obtain ⟨hE, hE40⟩ := isE_valid hv
  have hl := h.len
  obtain ⟨F, hF⟩ : ∃ F, foldK 40 xs = F := ⟨_, rfl⟩
  obtain ⟨hok1, hok2⟩ := foldK_ok 40 xs hE hE40
  rw [hF] at hok1 hok2
  have hp1 := isE_pos hok1
  have HR := Lib.hid (show foldC (kd, vr, ln, xs) = (kd, vr, ln, F) by show (kd, vr, ln, foldK 40 xs) = _; rw [hF])
  rw [HR.out]
  have H := Lib.hid h; have HE := Lib.hid hE; have HF := Lib.hid hF
  have hn40 : n ≤ 40 := by omega
  have hF40 : F.length ≤ 40 := by omega
  obtain ⟨w3, hw3⟩ : ∃ w3, (w.alloc (.cells #[.int .i64 kd, .int .i64 vr, .int .i64 ln, .slice xA n xc] 46)).alloc (.cells #[.int .i64 0, .int .i64 0, .int .i64 0, .slice none 0 0] 46) = w3 := ⟨_, rfl⟩
  have hz3 : w3.heap.size = w.heap.size + 2 := by rw [← hw3]; simp
  have E3 := Lib.hid (show Below w.heap.size w w3 by rw [← hw3]; exact (below_size.alloc (Nat.le_refl _) _).alloc (by simp) _)
  have K3 := Lib.hid (show Blk w3 w.heap.size 46 #[.int .i64 kd, .int .i64 vr, .int .i64 ln, .slice xA n xc] by rw [← hw3]; exact (Blk.new _ _ _).alloc _)
  have Z3 := Lib.hid (show Blk w3 (w.heap.size + 1) 46 #[.int .i64 0, .int .i64 0, .int .i64 0, .slice none 0 0] by
    rw [← hw3]
    have := Blk.new (w.alloc (.cells #[.int .i64 kd, .int .i64 vr, .int .i64 ln, .slice xA n xc] 46)) 46 #[.int .i64 0, .int .i64 0, .int .i64 0, .slice none 0 0]
    rwa [show (w.alloc (.cells #[.int .i64 kd, .int .i64 vr, .int .i64 ln, .slice xA n xc] 46)).heap.size = w.heap.size + 1 from by simp] at this)
  have x3 : w3.cell? ⟨w.heap.size, 3, none⟩ = some (.slice xA n xc) := K3.out.cell 3
  clear h hv hE hl hF hok1 hok2
  go_enter Try.func40, Try.ntmps40
  go_wp2_with fail
  refine (foldedExpr_c 40 xA n xc xs w3 (H.out.below E3.out) hnc hn40 (Nat.le_refl _) HE.out).mono ?_
  rw [HF.out]
  rintro e w4 ⟨A4, m4, c4, rfl, hr4, _, hm4, hb4⟩
  have hml := hr4.len
  obtain ⟨a4, rfl, hab4, _⟩ := hr4.2 (by omega)
  have E4 := Lib.hid (below_chain E3.out (by omega) hb4)
  have K4 := Lib.hid (K3.out.below hb4 (by omega)); have Z4 := Lib.hid (Z3.out.below hb4 (by omega))
  have hz4 := hb4.size
  have R4 := Lib.hid hr4
  have HML := Lib.hid hml
  have hm40 : m4 ≤ 40 := by omega
  have hm1 : 0 < m4 := by omega
  clear hr4 hb4 hml x3
  go_wp2_with (go_at_call 37; refine (cloneExpr_c a4 m4 c4 F w4 R4.out (by omega)).mono ?_; rintro e w5 ⟨A5, c5, rfl, hw5, hc5, hb5⟩; have E5 := Lib.hid (below_chain E4.out (by omega) hb5); have K5 := Lib.hid (K4.out.below hb5 (by omega)); have Z5 := Lib.hid (Z4.out.below hb5 (by omega)); have y0 : w5.cell? ⟨w.heap.size, 0, none⟩ = some (.int .i64 kd) := K5.out.cell 0; have y1 : w5.cell? ⟨w.heap.size, 1, none⟩ = some (.int .i64 vr) := K5.out.cell 1; have y2 : w5.cell? ⟨w.heap.size, 2, none⟩ = some (.int .i64 ln) := K5.out.cell 2; have y3 : w5.cell? ⟨w.heap.size, 3, none⟩ = some (.slice xA n xc) := K5.out.cell 3; have f3 := K5.out.frozen 3; have r0 : w5.cell? ⟨w.heap.size + 1, 0, none⟩ = some (.int .i64 0) := Z5.out.cell 0; have r1 : w5.cell? ⟨w.heap.size + 1, 1, none⟩ = some (.int .i64 0) := Z5.out.cell 1; have r2 : w5.cell? ⟨w.heap.size + 1, 2, none⟩ = some (.int .i64 0) := Z5.out.cell 2; have r3 : w5.cell? ⟨w.heap.size + 1, 3, none⟩ = some (.slice none 0 0) := Z5.out.cell 3; have s0 := Z5.out.frozen 0; have s1 := Z5.out.frozen 1; have s2 := Z5.out.frozen 2; have s3 := Z5.out.frozen 3)
  obtain ⟨w6, hw6⟩ : ∃ w6, w5.setCell ⟨w.heap.size, 3, none⟩ (.slice A5 m4 c5) = w6 := ⟨_, rfl⟩
  rw [hw6]
  have hz5 := hb5.size
  have Z6 := Lib.hid (show Blk w6 (w.heap.size + 1) 46 #[.int .i64 0, .int .i64 0, .int .i64 0, .slice none 0 0] by rw [← hw6]; exact Z5.out.far (by show w.heap.size + 1 ≠ w.heap.size; omega) _)
  have E6 := Lib.hid (show Below w.heap.size w w6 by rw [← hw6]; exact E5.out.setCell (Nat.le_refl _) _)
  have W6 := Lib.hid (show Wr w6 (w.heap.size + 2) w6.heap.size A5 (m4 * 2) (F.flatMap enc2) by rw [← hw6, World.size_setCell]; exact (hw5.wider (by omega) (Nat.le_refl _)).set_far (.inl (by show w.heap.size < w.heap.size + 2; omega)) _)
  obtain ⟨wE, hwE⟩ : ∃ wE, (((w6.setCell ⟨w.heap.size + 1, 0, none⟩ (.int .i64 kd)).setCell ⟨w.heap.size + 1, 1, none⟩ (.int .i64 vr)).setCell ⟨w.heap.size + 1, 2, none⟩ (.int .i64 ln)).setCell ⟨w.heap.size + 1, 3, none⟩ (.slice A5 m4 c5) = wE := ⟨_, rfl⟩
  rw [hwE]
  have ZE : Blk wE (w.heap.size + 1) 46 #[.int .i64 kd, .int .i64 vr, .int .i64 ln, .slice A5 m4 c5] := by rw [← hwE]; exact (((Z6.out.set_ 0 _).set_ 1 _).set_ 2 _).set_ 3 _
  have BE : Below w.heap.size w wE := by rw [← hwE]; exact (((E6.out.setCell (by show w.heap.size ≤ w.heap.size + 1; omega) _).setCell (by show w.heap.size ≤ w.heap.size + 1; omega) _).setCell (by show w.heap.size ≤ w.heap.size + 1; omega) _).setCell (by show w.heap.size ≤ w.heap.size + 1; omega) _
  have WE : Wr wE w.heap.size wE.heap.size A5 (m4 * 2) (F.flatMap enc2) := by
    rw [← hwE]
    simp only [World.size_setCell]
    exact ((((W6.out.set_far (.inl (by show w.heap.size + 1 < w.heap.size + 2; omega)) _).set_far (.inl (by show w.heap.size + 1 < w.heap.size + 2; omega)) _).set_far (.inl (by show w.heap.size + 1 < w.heap.size + 2; omega)) _).set_far (.inl (by show w.heap.size + 1 < w.heap.size + 2; omega)) _).wider (by omega) (Nat.le_refl _)
  have e0 : wE.cell? ⟨w.heap.size + 1, 0, none⟩ = some (.int .i64 kd) := ZE.cell 0
  have e1 : wE.cell? ⟨w.heap.size + 1, 1, none⟩ = some (.int .i64 vr) := ZE.cell 1
  have e2 : wE.cell? ⟨w.heap.size + 1, 2, none⟩ = some (.int .i64 ln) := ZE.cell 2
  have e3 : wE.cell? ⟨w.heap.size + 1, 3, none⟩ = some (.slice A5 m4 c5) := ZE.cell 3
  refine bodyPost_ret (v := .agg #[.int .i64 kd, .int .i64 vr, .int .i64 ln, .slice A5 m4 c5]) (by simp [results, Try.results40, go_sem, e0, e1, e2, e3]) rfl ?_
  exact ⟨⟨kd, vr, ln, A5, m4, c5, F⟩, rfl, rfl, WE, by show m4 ≤ 1000000; omega, hc5, BE⟩
set_option maxHeartbeats 4000000 in
set_option maxRecDepth 100000 in
theorem iFoldWhile_c (A : Option Addr) (n c : Nat) (ps : List Ct) {D : List Cmd} (w : World) (h : RdS w (sgCS A n ps)) (hn : n ≤ 1000000000) (hnc : n ≤ c) (hi : ∀ t ∈ ps, t.n ≤ 1000000000) (hcp : ∀ t ∈ ps, t.n ≤ t.c) (hw0 : ps.map datC = D) :
    Calls Try.prog 21 #[.slice A n c] w (CmOut2 (fwhR D) w) := by
  obtain ⟨q, hq⟩ : ∃ q, validW D = q := ⟨_, rfl⟩
  obtain ⟨R, hR⟩ : ∃ R, fwhR D = R := ⟨_, rfl⟩
  rw [hR]
  have HQ := Lib.hid (show validW (ps.map datC) = q by rw [hw0]; exact hq)
  have HR := Lib.hid (show (if q = true then (D.map foldC, 0) else ([], 1)) = R by rw [← hR, fwhR, hq])
  have HV := Lib.hid (show validW D = q from hq)
  have HD := Lib.hid hw0
  have HL := Lib.hid (RdCS.len h)
  have H := Lib.hid h; have HI := Lib.hid hi; have HCP := Lib.hid hcp; clear h hi hw0 hq hR hcp
  go_enter Try.func21, Try.ntmps21
  go_wp2_with fail
  refine (validWhile_c A n c ps q w H.out hnc hn HI.out HQ.out).mono ?_
  rintro e w1 ⟨rfl, hb1⟩
  have B1 := Lib.hid hb1
  have hz1 := B1.out.size
  clear hb1
  cases q
  · have HG := Lib.hid (show (([], 1) : List Cmd × Int) = R from HR.out)
    go_wp2_with fail
    go_ret2
    rw [← HG.out]
    exact CmOut2.bad 1 B1.out
  have HG := Lib.hid (show (D.map foldC, (0 : Int)) = R from HR.out)
  obtain ⟨hv1, hv2⟩ := validW_all HV.out
  have HV2 := Lib.hid hv2
  have h80 : n ≤ 80 := by rw [← HL.out, ← List.length_map (f := datC), HD.out]; exact hv1
  clear hv1 hv2 HR
  go_wp2_with fail
  refine (mappedF_c foldC A n c ps D w1 (H.out.below B1.out) (by omega) HD.out ?_).mono ?_
  · intro t ht wz hbz
    have hb := below_chain B1.out hz1 hbz
    have hrd : Rd2 wz t.A t.n t.xs := (H.out.below hb).tail (bodyC t) (List.mem_map_of_mem ht)
    obtain ⟨e1, e2, e3⟩ := HV2.out (datC t) (by rw [← HD.out]; exact List.mem_map_of_mem ht)
    exact foldWhile1_c t.kd t.vr t.ln t.A t.n t.c t.xs wz hrd (HCP.out t ht) e1
  rintro e w3 ⟨A', c', js, rfl, hO, hj, hj1, hb3⟩
  have O3 := Lib.hid (hO.widen hz1); have J3 := Lib.hid hj; have I3 := Lib.hid hj1; have B3 := Lib.hid (below_chain B1.out hz1 hb3)
  clear hO hj hj1 hb3
  go_wp2_with fail
  go_ret2
  rw [← HG.out]
  exact CmOut2.good O3.out (by omega) I3.out J3.out B3.out
end Go.Proofs.Ytecpbgmcednpoaa
