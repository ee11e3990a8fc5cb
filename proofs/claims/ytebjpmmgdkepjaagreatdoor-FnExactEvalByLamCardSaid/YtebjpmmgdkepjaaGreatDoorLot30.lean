/-
  Parts of the proof, one behind the other: contracts of the functions that the law reaches, and plain laws.
-/
import Derived.Test.YtebjpmmgdkepjaaGreatDoorLot29
/-
  Functions as terms: the program's steps and loops of a term.
-/
namespace Go.Proofs.YtebjpmmgdkepjaaGreatDoor
open Go.RowKit

theorem applyLamT_c (A : Option Addr) (n c : Nat) (t : LT) (G : Option Addr) (m mc N : Nat) (ps : List Tm) (T : LT) (w : World) (h : Rd2 w A n t) (hG : RdV w 2 G m (ps.map Tm.it)) (hm : m ≤ 11) (hT : appLm t (ps.map Tm.t) = T) (hN : T.length = N) (hb : N ≤ 100000) :
    Calls Tryz.prog 31 #[.slice A n c, .slice G m mc] w (TmOut T N w) := by
  subst hT
  have h1 := h.len
  have h2 := itLen hG
  rw [appLm_len, List.length_map, h1, h2] at hN
  exact applyLam_c A n c t G m mc N ps w h hG hm (by omega) (by omega) hN
theorem abstractT_c (n : Nat) (A : Option Addr) (m c : Nat) (t U : LT) (w : World) (h : Rd2 w A m t) (hU : absLm n t = U) (hn : n ≤ 11) (hm : m ≤ 1000000) : Calls Tryz.prog 54 #[.int .i64 n, .slice A m c] w (TmOut U U.length w) := by
  subst hU
  rw [absLm_len, h.len]
  exact abstract_c n A m c t w h hn hm
theorem abstract1_c (A : Option Addr) (m c : Nat) (t U : LT) (w : World) (h : Rd2 w A m t) (hU : absLm 1 t = U) (hm : m ≤ 1000000) : Calls Tryz.prog 54 #[.int .i64 1, .slice A m c] w (TmOut U U.length w) := abstractT_c 1 A m c t U w h hU (by omega) hm
theorem abstract2_c (A : Option Addr) (m c : Nat) (t U : LT) (w : World) (h : Rd2 w A m t) (hU : absLm 2 t = U) (hm : m ≤ 1000000) : Calls Tryz.prog 54 #[.int .i64 2, .slice A m c] w (TmOut U U.length w) := abstractT_c 2 A m c t U w h hU (by omega) hm
theorem abstract3_c (A : Option Addr) (m c : Nat) (t U : LT) (w : World) (h : Rd2 w A m t) (hU : absLm 3 t = U) (hm : m ≤ 1000000) : Calls Tryz.prog 54 #[.int .i64 3, .slice A m c] w (TmOut U U.length w) := abstractT_c 3 A m c t U w h hU (by omega) hm
theorem variables00_c (n : Nat) (w : World) (hn : n ≤ 10) : Calls Tryz.prog 170 #[.int .i64 n, .int .i64 0, .int .i64 0] w (LsOut (vsLm n 0 0) n w) := variables_c 0 n 0 n w (by omega) (by omega) (by omega) (by omega)
theorem variables02_c (n : Nat) (w : World) (hn : n ≤ 10) : Calls Tryz.prog 170 #[.int .i64 n, .int .i64 0, .int .i64 2] w (LsOut (vsLm n 0 2) n w) := variables_c 0 n 2 n w (by omega) (by omega) (by omega) (by omega)
theorem variables13_c (n : Nat) (w : World) (hn : n ≤ 10) (h1 : 1 ≤ n) : Calls Tryz.prog 170 #[.int .i64 n, .int .i64 1, .int .i64 3] w (LsOut (vsLm n 1 3) (n - 1) w) := variables_c 1 n 3 (n - 1) w (by omega) (by omega) (by omega) (by omega)
theorem numeralLam0_c (w : World) : Calls Tryz.prog 25 #[.int .i64 0] w (TmOut (numLm 0) 3 w) := numeralLam_c 0 w (by omega)
set_option maxHeartbeats 4000000 in
set_option maxRecDepth 100000 in
theorem repeatStep_c (na : Nat) (A : Option Addr) (m c : Nat) (p T : LT) (w : World) (h : Rd2 w A m p) (hL : LibS w) (hT : stepLm na p = T) (h1 : 1 ≤ na) (h4 : na ≤ 4) (hm : m ≤ 400) :
    Calls Tryz.prog 171 #[.int .i64 na, .slice A m c] w (TmOut T T.length w) := by
  have H := Lib.hid h; have HL := Lib.hid hL
  obtain ⟨TK, hTK⟩ : ∃ T, appLm sucLm [varLm 1] = T := ⟨_, rfl⟩
  obtain ⟨TP, hTP⟩ : ∃ T, appLm p ([varLm 1, varLm 0] ++ vsLm na 1 3) = T := ⟨_, rfl⟩
  obtain ⟨TI, hTI⟩ : ∃ T, appLm (varLm 2) [TK, TP] = T := ⟨_, rfl⟩
  have hTA : absLm 3 TI = T := by rw [← hT, ← hTI, ← hTK, ← hTP]; rfl
  have hTb : T.length ≤ 3000 := by rw [← hT, stepLm_len, h.len]; omega
  have hTi : TI.length ≤ 3000 := by rw [← hTA, absLm_len] at hTb; omega
  have hTk : TK.length ≤ 3000 ∧ TP.length ≤ 3000 := by rw [← hTI, app2_len] at hTi; omega
  have HTK := Lib.hid hTK; have HTP := Lib.hid hTP; have HTI := Lib.hid hTI; have HTA := Lib.hid hTA
  have E0 := Lib.hid (below_size : Below w.heap.size w w)
  clear h hL hT hTK hTP hTI hTA
  go_enter Tryz.func171, Tryz.ntmps171
  go_wp2_with fail
  refine (lamVar_c (2) _).mono ?_
  rintro e wx1 ⟨rfl, hbx1⟩
  have DX1 := Lib.hid hbx1; have zx1 := hbx1.size
  obtain ⟨w1, hw1⟩ : ∃ w', wx1.alloc (.cells #[.int .i64 0, .int .i64 (2)] 62) = w' := ⟨_, rfl⟩
  have D1 := Lib.hid (show Below _ _ w1 by rw [← hw1]; exact DX1.out.alloc zx1 _)
  have E1 := Lib.hid (E0.out.trans (D1.out.mono E0.out.size))
  have R1 := Lib.hid (show Rd2 w1 (some ⟨wx1.heap.size, 0, none⟩) 1 (varLm (2)) by rw [← hw1]; exact Rd2.lit rfl rfl)
  clear hbx1
  go_wp2_with fail
  refine (lamVar_c (1) _).mono ?_
  rintro e wx2 ⟨rfl, hbx2⟩
  have DX2 := Lib.hid hbx2; have zx2 := hbx2.size
  obtain ⟨w2, hw2⟩ : ∃ w', wx2.alloc (.cells #[.int .i64 0, .int .i64 (1)] 62) = w' := ⟨_, rfl⟩
  have D2 := Lib.hid (show Below _ _ w2 by rw [← hw2]; exact DX2.out.alloc zx2 _)
  have E2 := Lib.hid (E1.out.trans (D2.out.mono E1.out.size))
  have R2 := Lib.hid (show Rd2 w2 (some ⟨wx2.heap.size, 0, none⟩) 1 (varLm (1)) by rw [← hw2]; exact Rd2.lit rfl rfl)
  clear hbx2
  go_wp2_with fail
  refine (lamVar_c (0) _).mono ?_
  rintro e wx3 ⟨rfl, hbx3⟩
  have DX3 := Lib.hid hbx3; have zx3 := hbx3.size
  obtain ⟨w3, hw3⟩ : ∃ w', wx3.alloc (.cells #[.int .i64 0, .int .i64 (0)] 62) = w' := ⟨_, rfl⟩
  have D3 := Lib.hid (show Below _ _ w3 by rw [← hw3]; exact DX3.out.alloc zx3 _)
  have E3 := Lib.hid (E2.out.trans (D3.out.mono E2.out.size))
  have R3 := Lib.hid (show Rd2 w3 (some ⟨wx3.heap.size, 0, none⟩) 1 (varLm (0)) by rw [← hw3]; exact Rd2.lit rfl rfl)
  clear hbx3
  have E3b := Lib.hid (E3.out.alloc E3.out.size (.cells #[.slice (some ⟨wx2.heap.size, 0, none⟩) 1 1, .slice (some ⟨wx3.heap.size, 0, none⟩) 1 1] 25))
  have V3 := Lib.hid (tm2 (ty := 25) (c1 := 1) (c2 := 1) (R2.out.below D3.out) R3.out)
  go_wp2_with fail
  refine (variables13_c na _ (by omega) h1).mono ?_
  rintro e w4 ⟨G, gc, qs, rfl, hl4, hm4, hb4⟩
  have D4 := Lib.hid hb4; have E4 := Lib.hid (E3b.out.trans (hb4.mono E3b.out.size)); have V4 := Lib.hid hl4.rdV; have V3b := Lib.hid (V3.out.below hb4)
  have HM4 := Lib.hid hm4
  clear hl4 hm4 hb4
  go_wp2_with (at_builtin; refine wp_appTmF (by rfl) _ _ (by rfl) (some ⟨w3.heap.size, 0, none⟩) 2 [⟨some ⟨wx2.heap.size, 0, none⟩, 1, varLm 1⟩, ⟨some ⟨wx3.heap.size, 0, none⟩, 1, varLm 0⟩] (by rfl) (by exact V3b.out) (by omega) G (na - 1) gc qs (by rfl) (by exact V4.out) (by omega) ?_; intro A5 c5 w5 h5 hb5; have D5 := Lib.hid hb5; have E5 := Lib.hid (E4.out.trans (hb5.mono E4.out.size)); have V5 := Lib.hid h5; have HT5 := Lib.hid (show appLm p (([⟨some ⟨wx2.heap.size, 0, none⟩, 1, varLm 1⟩, ⟨some ⟨wx3.heap.size, 0, none⟩, 1, varLm 0⟩] ++ qs : List Tm).map Tm.t) = TP by rw [List.map_append, HM4.out]; exact HTP.out); clear h5 hb5)
  go_wp2_with fail
  refine (lamOf_suc _ (HL.out.below E5.out)).mono ?_
  rintro e w6 ⟨A6, c6, rfl, hl6, hw6, hc6, hb6⟩
  have D6 := Lib.hid hb6; have E6 := Lib.hid ((E5.out).trans (hb6.mono (E5.out).size)); have R6 := Lib.hid (show Rd2 w6 A6 (10) (sucLm) from hw6.rd); have z6 := E6.out.size
  clear hl6 hw6 hc6 hb6
  have E6b := Lib.hid (E6.out.alloc E6.out.size (.cells #[.slice (some ⟨wx2.heap.size, 0, none⟩) 1 1] 25))
  have R2b := Lib.hid (((((R2.out.below D3.out).alloc (.cells #[.slice (some ⟨wx2.heap.size, 0, none⟩) 1 1, .slice (some ⟨wx3.heap.size, 0, none⟩) 1 1] 25)).below D4.out).below D5.out).below D6.out)
  go_wp2_with fail
  refine (applyLamT_c (A6) (10) (c6) (sucLm) (some ⟨w6.heap.size, 0, none⟩) (1) (1) TK.length ([⟨some ⟨wx2.heap.size, 0, none⟩, 1, varLm 1⟩]) TK _ (R6.out.alloc _) (tm1 R2b.out) (by omega) (HTK.out) rfl (by omega)).mono ?_
  rintro e w7 ⟨A7, c7, rfl, hl7, hw7, hc7, hb7⟩
  have D7 := Lib.hid hb7; have E7 := Lib.hid ((E6b.out).trans (hb7.mono (E6b.out).size)); have R7 := Lib.hid (show Rd2 w7 A7 (TK.length) (TK) from hw7.rd); have z7 := E7.out.size
  clear hl7 hw7 hc7 hb7
  have D7b := Lib.hid (show Below w6.heap.size w6 w7 from (below_size.alloc (Nat.le_refl _) _).trans (D7.out.mono (by simp)))
  go_wp2_with fail
  refine (applyLamT_c (A) (m) (c) (p) (A5) (2 + (na - 1)) (c5) TP.length (_) TP _ (H.out.below E7.out) ((V5.out.below D6.out).below D7b.out) (by omega) (HT5.out) rfl (by omega)).mono ?_
  rintro e w8 ⟨A8, c8, rfl, hl8, hw8, hc8, hb8⟩
  have D8 := Lib.hid hb8; have E8 := Lib.hid ((E7.out).trans (hb8.mono (E7.out).size)); have R8 := Lib.hid (show Rd2 w8 A8 (TP.length) (TP) from hw8.rd); have z8 := E8.out.size
  clear hl8 hw8 hc8 hb8
  have E8b := Lib.hid (E8.out.alloc E8.out.size (.cells #[.slice A7 TK.length c7, .slice A8 TP.length c8] 25))
  have R1b := Lib.hid ((((((((R1.out.below D2.out).below D3.out).alloc (.cells #[.slice (some ⟨wx2.heap.size, 0, none⟩) 1 1, .slice (some ⟨wx3.heap.size, 0, none⟩) 1 1] 25)).below D4.out).below D5.out).below D6.out).below D7b.out).below D8.out)
  go_wp2_with fail
  refine (applyLamT_c (some ⟨wx1.heap.size, 0, none⟩) (1) (1) (varLm 2) (some ⟨w8.heap.size, 0, none⟩) (2) (2) TI.length ([⟨A7, c7, TK⟩, ⟨A8, c8, TP⟩]) TI _ (R1b.out.alloc _) (tm2 (R7.out.below D8.out) R8.out) (by omega) (HTI.out) rfl (by omega)).mono ?_
  rintro e w9 ⟨A9, c9, rfl, hl9, hw9, hc9, hb9⟩
  have D9 := Lib.hid hb9; have E9 := Lib.hid ((E8b.out).trans (hb9.mono (E8b.out).size)); have R9 := Lib.hid (show Rd2 w9 A9 (TI.length) (TI) from hw9.rd); have z9 := E9.out.size
  clear hl9 hw9 hc9 hb9
  go_wp2_with fail
  refine (abstract3_c A9 TI.length c9 TI T _ R9.out HTA.out (by omega)).mono ?_
  rintro e w10 ⟨A10, c10, rfl, hl10, hw10, hc10, hb10⟩
  have W10 := Lib.hid (hw10.wider (lo' := w.heap.size) z9 (Nat.le_refl _)); have C10 := Lib.hid hc10; have E10 := Lib.hid (E9.out.trans (hb10.mono z9))
  clear hl10 hw10 hc10 hb10
  go_wp2_with fail
  go_ret
  exact ⟨A10, c10, rfl, rfl, W10.out, C10.out, E10.out⟩
set_option maxHeartbeats 4000000 in
set_option maxRecDepth 100000 in
theorem leastLoop_c (na : Nat) (A : Option Addr) (m c : Nat) (p T : LT) (w : World) (h : Rd2 w A m p) (hL : LibS w) (hT : loopLm na p = T) (h4 : na ≤ 4) (hm : m ≤ 400) :
    Calls Tryz.prog 172 #[.int .i64 na, .slice A m c] w (TmOut T T.length w) := by
  have H := Lib.hid h; have HL := Lib.hid hL
  obtain ⟨TV, hTV⟩ : ∃ T, appLm p (varLm 0 :: vsLm na 0 2) = T := ⟨_, rfl⟩
  obtain ⟨TN, hTN⟩ : ∃ T, appLm sucLm [varLm 1] = T := ⟨_, rfl⟩
  obtain ⟨TG, hTG⟩ : ∃ T, appLm (varLm 2) [varLm 2, TN] = T := ⟨_, rfl⟩
  obtain ⟨TH, hTH⟩ : ∃ T, absLm 1 TG = T := ⟨_, rfl⟩
  obtain ⟨TX, hTX⟩ : ∃ T, appLm TV [TH, varLm 0] = T := ⟨_, rfl⟩
  have hTW : absLm 2 TX = T := by rw [← hT, ← hTX, ← hTH, ← hTG, ← hTN, ← hTV]; rfl
  have hTb : T.length ≤ 3000 := by rw [← hT, loopLm_len, h.len]; omega
  have hTx : TX.length ≤ 3000 := by rw [← hTW, absLm_len] at hTb; omega
  have hTv : TV.length ≤ 3000 ∧ TH.length ≤ 3000 := by rw [← hTX, app2_len] at hTx; omega
  have hTg : TG.length ≤ 3000 := by have h9 := hTv.2; rw [← hTH, absLm_len] at h9; omega
  have hTn : TN.length ≤ 3000 := by rw [← hTG, app2_len] at hTg; omega
  have HTV := Lib.hid hTV; have HTN := Lib.hid hTN; have HTG := Lib.hid hTG; have HTH := Lib.hid hTH; have HTX := Lib.hid hTX; have HTW := Lib.hid hTW
  have E0 := Lib.hid (below_size : Below w.heap.size w w)
  clear h hL hT hTV hTN hTG hTH hTX hTW
  go_enter Tryz.func172, Tryz.ntmps172
  go_wp2_with fail
  refine (lamVar_c (0) _).mono ?_
  rintro e wx1 ⟨rfl, hbx1⟩
  have DX1 := Lib.hid hbx1; have zx1 := hbx1.size
  obtain ⟨w1, hw1⟩ : ∃ w', wx1.alloc (.cells #[.int .i64 0, .int .i64 (0)] 62) = w' := ⟨_, rfl⟩
  have D1 := Lib.hid (show Below _ _ w1 by rw [← hw1]; exact DX1.out.alloc zx1 _)
  have E1 := Lib.hid (E0.out.trans (D1.out.mono E0.out.size))
  have R1 := Lib.hid (show Rd2 w1 (some ⟨wx1.heap.size, 0, none⟩) 1 (varLm (0)) by rw [← hw1]; exact Rd2.lit rfl rfl)
  clear hbx1
  have E1b := Lib.hid (E1.out.alloc E1.out.size (.cells #[.slice (some ⟨wx1.heap.size, 0, none⟩) 1 1] 25))
  have V1 := Lib.hid (tm1 (ty := 25) (c := 1) R1.out)
  go_wp2_with fail
  refine (variables02_c na _ (by omega)).mono ?_
  rintro e w4 ⟨G, gc, qs, rfl, hl4, hm4, hb4⟩
  have D4 := Lib.hid hb4; have E4 := Lib.hid (E1b.out.trans (hb4.mono E1b.out.size)); have V4 := Lib.hid hl4.rdV; have V1b := Lib.hid (V1.out.below hb4)
  have HM4 := Lib.hid hm4; have R1c := Lib.hid ((R1.out.alloc (.cells #[.slice (some ⟨wx1.heap.size, 0, none⟩) 1 1] 25)).below hb4)
  clear hl4 hm4 hb4
  go_wp2_with (at_builtin; refine wp_appTmF (by rfl) _ _ (by rfl) (some ⟨w1.heap.size, 0, none⟩) 1 [⟨some ⟨wx1.heap.size, 0, none⟩, 1, varLm 0⟩] (by rfl) (by exact V1b.out) (by omega) G na gc qs (by rfl) (by exact V4.out) (by omega) ?_; intro A5 c5 w5 h5 hb5; have D5 := Lib.hid hb5; have E5 := Lib.hid (E4.out.trans (hb5.mono E4.out.size)); have V5 := Lib.hid h5; have HT5 := Lib.hid (show appLm p (([⟨some ⟨wx1.heap.size, 0, none⟩, 1, varLm 0⟩] ++ qs : List Tm).map Tm.t) = TV by rw [List.map_append, HM4.out]; exact HTV.out); have R1d := Lib.hid (R1c.out.below hb5); clear h5 hb5)
  go_wp2_with fail
  refine (lamVar_c (2) _).mono ?_
  rintro e wx6 ⟨rfl, hbx6⟩
  have DX6 := Lib.hid hbx6; have zx6 := hbx6.size
  obtain ⟨w6, hw6⟩ : ∃ w', wx6.alloc (.cells #[.int .i64 0, .int .i64 (2)] 62) = w' := ⟨_, rfl⟩
  have D6 := Lib.hid (show Below _ _ w6 by rw [← hw6]; exact DX6.out.alloc zx6 _)
  have E6 := Lib.hid (E5.out.trans (D6.out.mono E5.out.size))
  have R6 := Lib.hid (show Rd2 w6 (some ⟨wx6.heap.size, 0, none⟩) 1 (varLm (2)) by rw [← hw6]; exact Rd2.lit rfl rfl)
  clear hbx6
  go_wp2_with fail
  refine (lamOf_suc _ (HL.out.below E6.out)).mono ?_
  rintro e w7 ⟨A7, c7, rfl, hl7, hw7, hc7, hb7⟩
  have D7 := Lib.hid hb7; have E7 := Lib.hid ((E6.out).trans (hb7.mono (E6.out).size)); have R7 := Lib.hid (show Rd2 w7 A7 (10) (sucLm) from hw7.rd); have z7 := E7.out.size
  clear hl7 hw7 hc7 hb7
  go_wp2_with fail
  refine (lamVar_c (1) _).mono ?_
  rintro e wx8 ⟨rfl, hbx8⟩
  have DX8 := Lib.hid hbx8; have zx8 := hbx8.size
  obtain ⟨w8, hw8⟩ : ∃ w', wx8.alloc (.cells #[.int .i64 0, .int .i64 (1)] 62) = w' := ⟨_, rfl⟩
  have D8 := Lib.hid (show Below _ _ w8 by rw [← hw8]; exact DX8.out.alloc zx8 _)
  have E8 := Lib.hid (E7.out.trans (D8.out.mono E7.out.size))
  have R8 := Lib.hid (show Rd2 w8 (some ⟨wx8.heap.size, 0, none⟩) 1 (varLm (1)) by rw [← hw8]; exact Rd2.lit rfl rfl)
  clear hbx8
  have E8b := Lib.hid (E8.out.alloc E8.out.size (.cells #[.slice (some ⟨wx8.heap.size, 0, none⟩) 1 1] 25))
  go_wp2_with fail
  refine (applyLamT_c (A7) (10) (c7) (sucLm) (some ⟨w8.heap.size, 0, none⟩) (1) (1) TN.length ([⟨some ⟨wx8.heap.size, 0, none⟩, 1, varLm 1⟩]) TN _ ((R7.out.below D8.out).alloc _) (tm1 R8.out) (by omega) (HTN.out) rfl (by omega)).mono ?_
  rintro e w9 ⟨A9, c9, rfl, hl9, hw9, hc9, hb9⟩
  have D9 := Lib.hid hb9; have E9 := Lib.hid ((E8b.out).trans (hb9.mono (E8b.out).size)); have R9 := Lib.hid (show Rd2 w9 A9 (TN.length) (TN) from hw9.rd); have z9 := E9.out.size
  clear hl9 hw9 hc9 hb9
  have F8 := Lib.hid (show Below w8.heap.size w8 w9 from (below_size.alloc (Nat.le_refl _) _).trans (D9.out.mono (by simp)))
  have E9b := Lib.hid (E9.out.alloc E9.out.size (.cells #[.slice (some ⟨wx6.heap.size, 0, none⟩) 1 1, .slice A9 TN.length c9] 25))
  have R6b := Lib.hid (((R6.out.below D7.out).below D8.out).below F8.out)
  go_wp2_with fail
  refine (applyLamT_c (some ⟨wx6.heap.size, 0, none⟩) (1) (1) (varLm 2) (some ⟨w9.heap.size, 0, none⟩) (2) (2) TG.length ([⟨some ⟨wx6.heap.size, 0, none⟩, 1, varLm 2⟩, ⟨A9, c9, TN⟩]) TG _ (R6b.out.alloc _) (tm2 R6b.out R9.out) (by omega) (HTG.out) rfl (by omega)).mono ?_
  rintro e w10 ⟨A10, c10, rfl, hl10, hw10, hc10, hb10⟩
  have D10 := Lib.hid hb10; have E10 := Lib.hid ((E9b.out).trans (hb10.mono (E9b.out).size)); have R10 := Lib.hid (show Rd2 w10 A10 (TG.length) (TG) from hw10.rd); have z10 := E10.out.size
  clear hl10 hw10 hc10 hb10
  have F9 := Lib.hid (show Below w9.heap.size w9 w10 from (below_size.alloc (Nat.le_refl _) _).trans (D10.out.mono (by simp)))
  go_wp2_with fail
  refine (abstract1_c A10 TG.length c10 TG TH _ R10.out HTH.out (by omega)).mono ?_
  rintro e w11 ⟨A11, c11, rfl, hl11, hw11, hc11, hb11⟩
  have D11 := Lib.hid hb11; have E11 := Lib.hid ((E10.out).trans (hb11.mono (E10.out).size)); have R11 := Lib.hid (show Rd2 w11 A11 (TH.length) (TH) from hw11.rd); have z11 := E11.out.size
  clear hl11 hw11 hc11 hb11
  have V5b := Lib.hid ((((((V5.out.below D6.out).below D7.out).below D8.out).below F8.out).below F9.out).below D11.out)
  go_wp2_with fail
  refine (applyLamT_c (A) (m) (c) (p) (A5) (1 + na) (c5) TV.length (_) TV _ (H.out.below E11.out) (V5b.out) (by omega) (HT5.out) rfl (by omega)).mono ?_
  rintro e w12 ⟨A12, c12, rfl, hl12, hw12, hc12, hb12⟩
  have D12 := Lib.hid hb12; have E12 := Lib.hid ((E11.out).trans (hb12.mono (E11.out).size)); have R12 := Lib.hid (show Rd2 w12 A12 (TV.length) (TV) from hw12.rd); have z12 := E12.out.size
  clear hl12 hw12 hc12 hb12
  have R1e := Lib.hid (((((((R1d.out.below D6.out).below D7.out).below D8.out).below F8.out).below F9.out).below D11.out).below D12.out)
  have E12b := Lib.hid (E12.out.alloc E12.out.size (.cells #[.slice A11 TH.length c11, .slice (some ⟨wx1.heap.size, 0, none⟩) 1 1] 25))
  go_wp2_with fail
  refine (applyLamT_c (A12) (TV.length) (c12) (TV) (some ⟨w12.heap.size, 0, none⟩) (2) (2) TX.length ([⟨A11, c11, TH⟩, ⟨some ⟨wx1.heap.size, 0, none⟩, 1, varLm 0⟩]) TX _ (R12.out.alloc _) (tm2 (R11.out.below D12.out) R1e.out) (by omega) (HTX.out) rfl (by omega)).mono ?_
  rintro e w13 ⟨A13, c13, rfl, hl13, hw13, hc13, hb13⟩
  have D13 := Lib.hid hb13; have E13 := Lib.hid ((E12b.out).trans (hb13.mono (E12b.out).size)); have R13 := Lib.hid (show Rd2 w13 A13 (TX.length) (TX) from hw13.rd); have z13 := E13.out.size
  clear hl13 hw13 hc13 hb13
  go_wp2_with fail
  refine (abstract2_c A13 TX.length c13 TX T _ R13.out HTW.out (by omega)).mono ?_
  rintro e w14 ⟨A14, c14, rfl, hl14, hw14, hc14, hb14⟩
  have W14 := Lib.hid (hw14.wider (lo' := w.heap.size) z13 (Nat.le_refl _)); have C14 := Lib.hid hc14; have E14 := Lib.hid (E13.out.trans (hb14.mono z13))
  clear hl14 hw14 hc14 hb14
  go_wp2_with fail
  go_ret
  exact ⟨A14, c14, rfl, rfl, W14.out, C14.out, E14.out⟩
end Go.Proofs.YtebjpmmgdkepjaaGreatDoor
