/-
  Contracts of chapter 27: FormulaAt of the reference and of the program.
-/
import Derived.Test.YtmmgejnhfpfmnaaC27i
namespace Go.Proofs.Ytmmgejnhfpfmnaa
open Go.RowKit

theorem allB_drop {lo hi : Int} {xs : List Int} {k : Nat} {x : Int} (h : xs[k]? = some x) : allB lo hi (xs.drop k) = (inB x lo hi && allB lo hi (xs.drop (k + 1))) := by rw [drop_at h, allB]
theorem FormP.drewN {w : World} {g : Nat} {s hd a : Int} {A0 : Option Addr} {n0 c0 : Nat} {its0 : List It} {A1 : Option Addr} {n1 c1 : Nat} {its1 : List It} {A2 : Option Addr} {n2 c2 : Nat} {os : List Int} (h : FormP w g s hd a A0 n0 c0 its0 A1 n1 c1 its1 A2 n2 c2 os) (k : Nat) : FormP (w.drewN k) g s hd a A0 n0 c0 its0 A1 n1 c1 its1 A2 n2 c2 os := h.below (below_drewN below_size k)
theorem fatR_len {sy st : Int} {rs : List Rule3} {s hd a : Int} {ws rps : List (List Int)} {os cs : List Int} (hv : vformB sy st rs s hd a ws rps os = true) (h : cs.length ≠ rps.length) : fatR sy st rs s hd a ws rps os cs = (zeroC, 2) := by
  rw [fatR, hv, if_pos rfl, if_neg h]
theorem fatR_all {sy st : Int} {rs : List Rule3} {s hd a : Int} {ws rps : List (List Int)} {os cs : List Int} (hv : vformB sy st rs s hd a ws rps os = true) (h : cs.length = rps.length) (h2 : allB 0 64 cs = false) : fatR sy st rs s hd a ws rps os cs = (zeroC, 2) := by
  rw [fatR, hv, if_pos rfl, if_pos h, h2]; rfl
theorem fatR_neg {sy st : Int} {rs : List Rule3} {s hd a : Int} {ws rps : List (List Int)} {os cs : List Int} (hv : vformB sy st rs s hd a ws rps os = true) (h : cs.length = rps.length) (h2 : allB 0 64 cs = true) (h3 : negB cs os = true) : fatR sy st rs s hd a ws rps os cs = (zeroC, 7) := by
  rw [fatR, hv, if_pos rfl, if_pos h, h2, if_pos rfl, h3, if_pos rfl]
theorem fatR_ok {sy st : Int} {rs : List Rule3} {s hd a : Int} {ws rps : List (List Int)} {os cs : List Int} (hv : vformB sy st rs s hd a ws rps os = true) (h : cs.length = rps.length) (h2 : allB 0 64 cs = true) (h3 : negB cs os = false) : fatR sy st rs s hd a ws rps os cs = fatO s hd a ws rps os cs := by
  rw [fatR, hv, if_pos rfl, if_pos h, h2, if_pos rfl, h3]; rfl
theorem CfgOut2.ofc {w w1 : World} {s code : Int} {L M : List Int} {A B : Option Addr} {n c m d g lo hi : Nat} {u0 u1 u2 : Value} (hS : WrS w1 lo hi ([sgI A n L] ++ [sgI B m M])) (hg : w.heap.size ≤ g) (hlo : w.heap.size ≤ lo) (hlt : g < lo) (hn : n ≤ 1000000) (hm : m ≤ 1000000) (hb : Below w.heap.size w w1) (hhi : hi ≤ w1.heap.size) :
    CfgOut2 ((s, L, M), code) w (.returned (.tuple #[.agg #[i64 s, .slice A n c, .slice B m d], i64 code])) (((w1.setCell ⟨g, 0, none⟩ u0).setCell ⟨g, 1, none⟩ u1).setCell ⟨g, 2, none⟩ u2) :=
  ⟨A, n, c, B, m, d, rfl, by
    have := ((hS.set_far (p := ⟨g, 0, none⟩) (.inl hlt) u0).set_far (p := ⟨g, 1, none⟩) (.inl hlt) u1).set_far (p := ⟨g, 2, none⟩) (.inl hlt) u2
    exact this.wider hlo (by simpa using hhi), ⟨hn, hm⟩, ((hb.setCell (by exact hg) _).setCell (by exact hg) _).setCell (by exact hg) _⟩
theorem bad3 {w0 w : World} {B g : Nat} {u0 u1 u2 : Value} (h : Below B w0 w) (hg : B ≤ g) : Below B w0 (((w.setCell ⟨g, 0, none⟩ u0).setCell ⟨g, 1, none⟩ u1).setCell ⟨g, 2, none⟩ u2) :=
  ((h.setCell (by exact hg) _).setCell (by exact hg) _).setCell (by exact hg) _
set_option maxHeartbeats 8000000 in
set_option maxRecDepth 100000 in
theorem sFormulaAt0_c (sy st : Int) (A : Option Addr) (n cp : Nat) (rs : List Rule3) (s hd a : Int) (A0 : Option Addr) (n0 c0 : Nat) (its0 : List It) (A1 : Option Addr) (n1 c1 : Nat) (its1 : List It) (A2 : Option Addr) (n2 c2 : Nat) (os : List Int) (C : Option Addr) (nc cc : Nat) (cs : List Int) (w : World)
    (h : RdS w [sgX enc3 3 A n rs]) (h' : RdS w (sgForm A0 n0 its0 A1 n1 its1 A2 n2 os)) (h'' : RdI w C nc cs) (hn : n ≤ 1000000000) (hn' : n0 ≤ 1000000000) (hna : n1 ≤ 1000000000) (hnb : n2 ≤ 1000000000) (hn'' : nc ≤ 1000000000) (hi0 : ∀ t ∈ its0, t.n ≤ 1000000000) (hi1 : ∀ t ∈ its1, t.n ≤ 1000000000) :
    Calls Try.prog 30 #[.agg #[.int .i64 sy, .int .i64 st, .slice A n cp], .agg #[.int .i64 s, .int .i64 hd, .int .i64 a, .slice A0 n0 c0, .slice A1 n1 c1, .slice A2 n2 c2], .slice C nc cc] w (CfgOut2 (fatR sy st rs s hd a (its0.map It.xs) (its1.map It.xs) os cs) w) := by
  have H := Lib.hid (show Rd3 w A n rs from h.head); have H' := Lib.hid h'; have HC := Lib.hid h''
  have HLC := Lib.hid h''.len; have HL1 := Lib.hid (RdII.len h'.left.right); have HL2 := Lib.hid (show os.length = n2 from RdI.len (show RdI w A2 n2 os from h'.right.head))
  clear h h' h''
  obtain ⟨w0, hw0⟩ : ∃ w0, ((w.alloc (.cells #[i64 sy, i64 st, .slice A n cp] 34)).alloc (.cells #[i64 s, i64 hd, i64 a, .slice A0 n0 c0, .slice A1 n1 c1, .slice A2 n2 c2] 29)).alloc (.cells #[i64 0, .slice none 0 0, .slice none 0 0] 59) = w0 := ⟨_, rfl⟩
  obtain ⟨b0, b1, b2⟩ := boxes3 w #[i64 sy, i64 st, .slice A n cp] #[i64 s, i64 hd, i64 a, .slice A0 n0 c0, .slice A1 n1 c1, .slice A2 n2 c2] #[i64 0, .slice none 0 0, .slice none 0 0] 34 29 59
  rw [hw0] at b0 b1 b2
  have B0 := Lib.hid (show Below w.heap.size w w0 by rw [← hw0]; exact ((below_size.alloc (Nat.le_refl _) _).alloc (by simp) _).alloc (by simp; omega) _)
  have F0 := Lib.hid (show FormP w0 (w.heap.size + 1) s hd a A0 n0 c0 its0 A1 n1 c1 its1 A2 n2 c2 os by
    have hh := H'.out.below B0.out
    exact ⟨b1.cell 0, b1.cell 1, b1.cell 2, b1.cell 3, b1.cell 4, b1.cell 5, hh.left.left, hh.left.right, hh.right.head⟩)
  have M0 := Lib.hid (show MachP w0 w.heap.size sy st A n cp rs from ⟨b0.cell 0, b0.cell 1, b0.cell 2, Rd.below H.out B0.out⟩)
  have Z0 := Lib.hid (show Blk w0 (w.heap.size + 2) 59 #[i64 0, .slice none 0 0, .slice none 0 0] from b2)
  have hz0 : w.heap.size + 3 ≤ w0.heap.size := by rw [← hw0]; simp
  obtain ⟨q, hq⟩ : ∃ q, machB sy st rs = q := ⟨_, rfl⟩
  obtain ⟨r, hr⟩ : ∃ r, formB sy st s hd a (its0.map It.xs) (its1.map It.xs) os = r := ⟨_, rfl⟩
  obtain ⟨R, hR⟩ : ∃ R, fatR sy st rs s hd a (its0.map It.xs) (its1.map It.xs) os cs = R := ⟨_, rfl⟩
  rw [hR]
  have HR := Lib.hid hR
  have HF := Lib.hid (show vformB sy st rs s hd a (its0.map It.xs) (its1.map It.xs) os = (q && r) by rw [vformB, hq, hr])
  have HQ := Lib.hid hq; have HI0 := Lib.hid hi0; have HI1 := Lib.hid hi1; have HRr := Lib.hid hr
  clear hr hi0 hi1 hR b0 b1 b2
  have m0 := M0.out.c0; have m1 := M0.out.c1; have m2 := M0.out.c2
  go_enter Try.func30, Try.ntmps30
  go_wp2_with fail
  refine (l05Is_c w.heap.size sy st A n cp rs q _ (by exact M0.out) hn hq).mono ?_
  rintro e w1 ⟨rfl, hb⟩
  have T := Lib.hid (below_chain B0.out B0.out.size hb)
  have M1 := Lib.hid (M0.out.below hb); have F1 := Lib.hid (F0.out.below hb); have Z1 := Lib.hid (Z0.out.keep hb)
  have hz1 : w.heap.size + 3 ≤ w1.heap.size := Nat.le_trans hz0 hb.size
  clear hb hq m0 m1 m2 hw0
  have m0 := M1.out.c0; have m1 := M1.out.c1; have m2 := M1.out.c2
  have k0 := F1.out.d0; have k1 := F1.out.d1; have k2 := F1.out.d2; have k3 := F1.out.d3; have k4 := F1.out.d4; have k5 := F1.out.d5
  have z0 := Z1.out.cell 0; have z1 := Z1.out.cell 1; have z2 := Z1.out.cell 2; have y0 := Z1.out.frozen 0; have y1 := Z1.out.frozen 1; have y2 := Z1.out.frozen 2
  simp at z0 z1 z2
  cases q
  · go_wp2_with fail
    refine bodyPost_ret (v := .tuple #[.agg #[i64 0, .slice none 0 0, .slice none 0 0], i64 1]) (by simp [results, Try.results30, go_sem, z0, z1, z2]) rfl ?_
    rw [show R = (zeroC, 1) by rw [← HR.out, fatR, HF.out]; rfl]
    exact CfgOut2.bad 1 (bad3 T.out (by omega))
  have hbd := machB_bd HQ.out
  go_wp2_with fail
  refine (l27Is_c _ sy st A n cp rs _ s hd a A0 n0 c0 its0 A1 n1 c1 its1 A2 n2 c2 os r _ (by exact M1.out) (by exact F1.out) hbd.1 hbd.2.1 hn' hna hnb HI0.out HI1.out HRr.out).mono ?_
  rintro e w2 ⟨rfl, hq⟩
  have hb := hq.below w1.heap.size
  have T2 := Lib.hid (below_chain T.out T.out.size hb)
  have M2 := Lib.hid (M1.out.below hb); have F2 := Lib.hid (F1.out.below hb); have Z2 := Lib.hid (Z1.out.keep hb)
  have hz2 : w.heap.size + 3 ≤ w2.heap.size := Nat.le_trans hz1 hb.size
  clear hq hb hbd m0 m1 m2 k0 k1 k2 k3 k4 k5 z0 z1 z2 y0 y1 y2
  have k4 := F2.out.d4
  have z0 := Z2.out.cell 0; have z1 := Z2.out.cell 1; have z2 := Z2.out.cell 2; have y0 := Z2.out.frozen 0; have y1 := Z2.out.frozen 1; have y2 := Z2.out.frozen 2
  simp at z0 z1 z2
  cases r
  · go_wp2_with fail
    refine bodyPost_ret (v := .tuple #[.agg #[i64 0, .slice none 0 0, .slice none 0 0], i64 1]) (by simp [results, Try.results30, go_sem, z0, z1, z2]) rfl ?_
    rw [show R = (zeroC, 1) by rw [← HR.out, fatR, HF.out]; rfl]
    exact CfgOut2.bad 1 (bad3 T2.out (by omega))
  have HV := Lib.hid (show vformB sy st rs s hd a (its0.map It.xs) (its1.map It.xs) os = true by rw [HF.out]; rfl)
  have OK := Lib.hid (formB_ok HRr.out)
  have hbd := machB_bd HQ.out
  have HBD := Lib.hid hbd
  have hr3 : n1 ≤ 3 := by have := OK.out.r; rw [List.length_map, HL1.out] at this; exact this.2
  have hno : n1 ≤ n2 ∧ n2 ≤ n1 := by have := OK.out.no; rw [List.length_map, HL1.out, HL2.out] at this; omega
  clear hbd
  by_cases hlen : nc = n1
  rotate_left
  · have en : ((nc : Int) != (n1 : Int)) = true := by simp; omega
    have HE := Lib.hid (show R = (zeroC, 2) by rw [← HR.out]; exact fatR_len HV.out (by rw [List.length_map, HLC.out, HL1.out]; exact hlen))
    clear hlen
    go_wp2_with fail
    refine bodyPost_ret (v := .tuple #[.agg #[i64 0, .slice none 0 0, .slice none 0 0], i64 2]) (by simp [results, Try.results30, go_sem, z0, z1, z2]) rfl ?_
    rw [HE.out]
    exact CfgOut2.bad 2 (bad3 T2.out (by omega))
  have en : ((nc : Int) != (n1 : Int)) = false := by simp; omega
  have HLN := Lib.hid (show cs.length = (its1.map It.xs).length by rw [List.length_map, HLC.out, HL1.out]; exact hlen)
  have hnc : nc ≤ n1 ∧ n1 ≤ nc := by omega
  clear hlen
  go_wp2_with fail
  clear z0 z1 z2 y0 y1 y2 k4 en
  go_loopw [8] (fun iv wr => ∃ k : Nat, k ≤ nc ∧ iv = .int .i64 k ∧ Hid (allB 0 64 (cs.drop k) = allB 0 64 cs) ∧ Below w2.heap.size w2 wr) (fun iv _ => nc - (intOf iv).toNat)
  case atStart => exact ⟨0, by omega, rfl, rfl, below_size⟩
  case round =>
    obtain ⟨k, hk, rfl, hall, hb⟩ := hrel
    have HB := Lib.hid hb
    have ZR := Lib.hid (Z2.out.keep hb)
    have hzr := hb.size
    have z0 := ZR.out.cell 0; have z1 := ZR.out.cell 1; have z2 := ZR.out.cell 2; have y0 := ZR.out.frozen 0; have y1 := ZR.out.frozen 1; have y2 := ZR.out.frozen 2
    simp at z0 z1 z2
    by_cases hlt : k < nc
    · obtain ⟨ac, x, rfl, _, hx, hcx⟩ := ((HC.out.below T2.out).below hb).at_ hlt
      have HX := Lib.hid hx
      obtain ⟨u, hu⟩ : ∃ u, inB x 0 64 = u := ⟨_, rfl⟩
      have HU := Lib.hid hu
      clear hb hx
      cases u
      · have HE := Lib.hid (show R = (zeroC, 2) by
          rw [← HR.out]
          refine fatR_all HV.out HLN.out ?_
          rw [← hall.out, allB_drop HX.out, HU.out]; rfl)
        go_wp2_with (go_at_call 44; refine (l00In_b x 0 64 false hu _).mono ?_; rintro e w' ⟨rfl, rfl⟩)
        refine bodyPost_ret (v := .tuple #[.agg #[i64 0, .slice none 0 0, .slice none 0 0], i64 2]) (by simp [results, Try.results30, go_sem, z0, z1, z2]) rfl ?_
        rw [HE.out]
        exact CfgOut2.bad 2 (bad3 (below_chain T2.out T2.out.size HB.out) (by omega))
      · have HN := Lib.hid (show allB 0 64 (cs.drop (k + 1)) = allB 0 64 cs by rw [← hall.out, allB_drop HX.out, HU.out, Bool.true_and])
        have vk : IntKind.i64.wrap ((k : Int) + 1) = (k : Int) + 1 := IntWalk.i64_in _ (by omega)
        go_wp2_with (go_at_call 44; refine (l00In_b x 0 64 true hu _).mono ?_; rintro e w' ⟨rfl, rfl⟩)
        go_roundw
        case rel => exact ⟨k + 1, by omega, by go_num, HN.out, HB.out⟩
        case measure => simp [intOf]; omega
    · have HA := Lib.hid (show allB 0 64 cs = true by rw [← hall.out, List.drop_eq_nil_of_le (by rw [HLC.out]; omega)]; rfl)
      have FR := Lib.hid (F2.out.below hb); have MR := Lib.hid (M2.out.below hb)
      have TR := Lib.hid (below_chain T2.out T2.out.size hb)
      obtain ⟨wo, rfl⟩ : ∃ wo : World, wo = wr := ⟨_, rfl⟩
      clear hb hall z0 z1 z2 y0 y1 y2
      go_wp2_with fail
      go_loopw [9, 10] (fun sv iv wr => ∃ (k : Nat) (S : Int), k ≤ nc ∧ iv = .int .i64 k ∧ sv = .int .i64 S ∧ 0 ≤ S ∧ S ≤ (k : Int) * 21280 ∧ Hid (negB (cs.drop k) (os.drop k) = negB cs os) ∧ Below wo.heap.size wo wr) (fun _ iv _ => nc - (intOf iv).toNat)
      case atStart => exact ⟨0, 0, by omega, rfl, rfl, by omega, by omega, rfl, below_size⟩
      case round =>
        obtain ⟨k, S, hk, rfl, rfl, hS0, hS1, hneg, hb⟩ := hrel
        have HB := Lib.hid hb
        have FR2 := Lib.hid (FR.out.below hb)
        by_cases hlt : k < nc
        · obtain ⟨ac, x, rfl, _, hx, hcx⟩ := ((HC.out.below TR.out).below hb).at_ hlt
          obtain ⟨ao, o, rfl, _, ho, hco⟩ := FR2.out.r2.at_ (k := k) (by omega)
          obtain ⟨ar, u, rfl, _, hu, hcu, hru⟩ := RdII.at_ FR2.out.r1 (k := k) (by omega)
          have hun : u.n ≤ 20 := by
            have h1 := RdII.size FR2.out.r1 (List.mem_of_getElem? hu)
            have h2 := (OK.out.p u.xs (List.mem_map_of_mem (List.mem_of_getElem? hu))).2.1
            omega
          have hxo := allB_mem HA.out x (List.mem_of_getElem? hx)
          have hoo := OK.out.o o (List.mem_of_getElem? ho)
          have HNE := Lib.hid (negB_at hx ho)
          have k5 := FR2.out.d5; have k4 := FR2.out.d4
          have hk2 : (k : Int) < (n2 : Int) ∧ (k : Int) < (n1 : Int) := by omega
          obtain ⟨hk21, hk22⟩ := hk2
          have v1 : IntKind.i64.wrap (x + o) = x + o := IntWalk.i64_in _ (by omega)
          clear hb hx ho hu hru
          by_cases hn0 : x + o < 0
          · have dn : decide (x + o < 0) = true := decide_eq_true hn0
            have HE := Lib.hid (show R = (zeroC, 7) by
              rw [← HR.out]
              refine fatR_neg HV.out HLN.out HA.out ?_
              rw [← hneg.out, HNE.out, dn]; rfl)
            have Z3 := Lib.hid ((ZR.out.keep HB.out))
            clear hn0
            go_wp2_with fail
            go_quiet (fail)
            have z0 := (Z3.out.drewN nq).cell 0; have z1 := (Z3.out.drewN nq).cell 1; have z2 := (Z3.out.drewN nq).cell 2; have y0 := (Z3.out.drewN nq).frozen 0; have y1 := (Z3.out.drewN nq).frozen 1; have y2 := (Z3.out.drewN nq).frozen 2
            simp at z0 z1 z2
            clear hcx hco hcu k4 k5 v1
            go_wp2_with fail
            refine bodyPost_ret (v := .tuple #[.agg #[i64 0, .slice none 0 0, .slice none 0 0], i64 7]) (by simp [results, Try.results30, go_sem, z0, z1, z2]) rfl ?_
            rw [HE.out]
            exact CfgOut2.bad 7 (bad3 (below_drewN (below_chain TR.out TR.out.size HB.out) nq) (by omega))
          · have dn : decide (x + o < 0) = false := decide_eq_false hn0
            have HN := Lib.hid (show negB (cs.drop (k + 1)) (os.drop (k + 1)) = negB cs os by rw [← hneg.out, HNE.out, dn, Bool.false_or])
            obtain ⟨P, hP⟩ : ∃ P, (x + o) * (u.n : Int) = P := ⟨_, rfl⟩
            have hPb : 0 ≤ P ∧ P ≤ 21280 := by
              rw [← hP]
              refine ⟨Int.mul_nonneg (by omega) (by omega), ?_⟩
              have := Int.mul_le_mul (show x + o ≤ 1064 by omega) (show (u.n : Int) ≤ 20 by omega) (by omega) (by omega)
              omega
            have v2 : IntKind.i64.wrap ((x + o) * (u.n : Int)) = P := by rw [hP]; exact IntWalk.i64_in _ (by omega)
            have v3 : IntKind.i64.wrap (S + P) = S + P := IntWalk.i64_in _ (by omega)
            have vk : IntKind.i64.wrap ((k : Int) + 1) = (k : Int) + 1 := IntWalk.i64_in _ (by omega)
            clear hn0 hP
            go_wp2_with fail
            go_quiet (fail)
            go_wp2_with fail
            go_quiet (fail)
            go_wp2_with fail
            go_roundw
            case rel => exact ⟨k + 1, S + P, by omega, by go_num, rfl, by omega, by omega, HN.out, below_drewN HB.out _⟩
            case measure => simp [intOf]; omega
        · have HNG := Lib.hid (show negB cs os = false by rw [← hneg.out, show cs.drop k = [] from List.drop_eq_nil_of_le (by rw [HLC.out]; omega)]; exact negB_nil)
          have HE := Lib.hid (show R = fatO s hd a (its0.map It.xs) (its1.map It.xs) os cs by rw [← HR.out]; exact fatR_ok HV.out HLN.out HA.out HNG.out)
          have CN := Lib.hid (cnt_ok OK.out HLN.out HA.out HNG.out)
          have kS : decide ((100000 : Int) < S) = false := decide_eq_false (by omega)
          have MR2 := Lib.hid (MR.out.below hb)
          have HCC := Lib.hid (l27Config_c (w.heap.size + 1) sy st s hd a A0 n0 c0 its0 A1 n1 c1 its1 A2 n2 c2 os C nc cc cs wr FR2.out ((HC.out.below TR.out).below hb) OK.out CN.out)
          obtain ⟨D0, hD⟩ : ∃ D0, cfgF s hd a (its0.map It.xs) (its1.map It.xs) (ksOf cs os) = D0 := ⟨_, rfl⟩
          have HG := Lib.hid (show confB sy st s D0.2.1 D0.2.2 = fitC D0 by rw [← hD]; exact cfg_good OK.out (by have := HBD.out.1; omega) _)
          have HS := Lib.hid (show D0.1 = s by rw [← hD]; rfl)
          rw [hD] at HCC
          have HE2 := Lib.hid (show R = if fitC D0 then (D0, 0) else (zeroC, 5) by rw [HE.out, fatO, hD])
          have TW := Lib.hid (below_chain TR.out TR.out.size hb)
          have Z3 := Lib.hid ((ZR.out.keep HB.out))
          have hzw : w.heap.size + 3 ≤ wr.heap.size := by have := HB.out.size; omega
          clear hb hneg hD
          go_wp2_with fail
          refine HCC.out.mono ?_
          rintro e w5 ⟨A5, n5, c5, B5, m5, d5, rfl, hS5, ⟨hn5, hm5⟩, hb5⟩
          obtain ⟨D1, L, M⟩ := D0
          simp only at HS
          obtain rfl : D1 = s := HS.out
          obtain ⟨w6, hw6⟩ : ∃ w6, w5.alloc (.cells #[i64 D1, .slice A5 n5 c5, .slice B5 m5 d5] 59) = w6 := ⟨_, rfl⟩
          have E6 := Lib.hid (show Below wr.heap.size wr w6 by rw [← hw6]; exact hb5.alloc hb5.size _)
          have hzz : wr.heap.size ≤ w5.heap.size := hb5.size
          have N6 := Lib.hid (show Blk w6 w5.heap.size 59 #[i64 D1, .slice A5 n5 c5, .slice B5 m5 d5] by rw [← hw6]; exact Blk.new _ _ _)
          have S6 := Lib.hid (show WrS w6 wr.heap.size w5.heap.size ([sgI A5 n5 L] ++ [sgI B5 m5 M]) by rw [← hw6]; exact hS5.alloc _)
          have C6 := Lib.hid (show ConfP w6 w5.heap.size D1 A5 n5 c5 L B5 m5 d5 M from ⟨N6.out.cell 0, N6.out.cell 1, N6.out.cell 2, S6.out.rd.left.head, S6.out.rd.right.head⟩)
          have M6 := Lib.hid (MR2.out.below E6.out)
          have Z6 := Lib.hid (Z3.out.keep E6.out)
          have T6 := Lib.hid (below_chain TW.out TW.out.size E6.out)
          have hz6 : w5.heap.size ≤ w6.heap.size := by rw [← hw6]; simp
          have z0 := Z6.out.cell 0; have z1 := Z6.out.cell 1; have z2 := Z6.out.cell 2; have y0 := Z6.out.frozen 0; have y1 := Z6.out.frozen 1; have y2 := Z6.out.frozen 2
          have x0 := N6.out.cell 0; have x1 := N6.out.cell 1; have x2 := N6.out.cell 2
          simp at z0 z1 z2 x0 x1 x2
          obtain ⟨f, hf⟩ : ∃ f, fitC (D1, L, M) = f := ⟨_, rfl⟩
          have HFI := Lib.hid hf
          have hgf : confB sy st D1 L M = f := by rw [← hf]; exact HG.out
          have HGF := Lib.hid hgf
          clear hS5 hb5 hf hgf
          go_wp2_with fail
          refine (l05Good_c _ sy st A n cp rs _ D1 A5 n5 c5 L B5 m5 d5 M f _ (by exact M6.out) (by exact C6.out) HBD.out.1 HBD.out.2.1 (by omega) (by omega) HGF.out).mono ?_
          rintro e w7 ⟨rfl, hq7⟩
          have hb7 := hq7.below w6.heap.size
          have Z7 := Lib.hid (Z6.out.keep hb7); have N7 := Lib.hid (N6.out.keep hb7); have S7 := Lib.hid (S6.out.below hb7)
          have T7 := Lib.hid (below_chain T6.out T6.out.size hb7)
          have hz7 := hb7.size
          clear hq7 hb7 z0 z1 z2 y0 y1 y2 x0 x1 x2 hw6
          have z0 := Z7.out.cell 0; have z1 := Z7.out.cell 1; have z2 := Z7.out.cell 2; have y0 := Z7.out.frozen 0; have y1 := Z7.out.frozen 1; have y2 := Z7.out.frozen 2
          have x0 := N7.out.cell 0; have x1 := N7.out.cell 1; have x2 := N7.out.cell 2
          simp at z0 z1 z2 x0 x1 x2
          cases f
          · go_wp2_with fail
            refine bodyPost_ret (v := .tuple #[.agg #[i64 0, .slice none 0 0, .slice none 0 0], i64 5]) (by simp [results, Try.results30, go_sem, z0, z1, z2]) rfl ?_
            rw [show R = (zeroC, 5) by rw [HE2.out, HFI.out]; rfl]
            exact CfgOut2.bad 5 (bad3 T7.out (by omega))
          · go_wp2_with fail
            refine bodyPost_ret (v := .tuple #[.agg #[i64 D1, .slice A5 n5 c5, .slice B5 m5 d5], i64 0]) (by simp [results, Try.results30, go_sem, z0, z1, z2]) rfl ?_
            rw [show R = ((D1, L, M), 0) by rw [HE2.out, HFI.out]; rfl]
            exact CfgOut2.of (g := w.heap.size + 2) S7.out (by omega) (by omega) (by omega) hn5 hm5 T7.out (by omega)
theorem sFormulaAt_c (sy st : Int) (A : Option Addr) (n cp : Nat) (rs : List Rule3) (s hd a : Int) (A0 : Option Addr) (n0 c0 : Nat) (its0 : List It) (A1 : Option Addr) (n1 c1 : Nat) (its1 : List It) (A2 : Option Addr) (n2 c2 : Nat) (os : List Int) (C : Option Addr) (nc cc : Nat) (cs : List Int) (w : World) {W RP : List (List Int)}
    (h : RdS w [sgX enc3 3 A n rs]) (h' : RdS w (sgForm A0 n0 its0 A1 n1 its1 A2 n2 os)) (h'' : RdI w C nc cs) (hn : n ≤ 1000000000) (hn' : n0 ≤ 1000000000) (hna : n1 ≤ 1000000000) (hnb : n2 ≤ 1000000000) (hn'' : nc ≤ 1000000000) (hi0 : ∀ t ∈ its0, t.n ≤ 1000000000) (hi1 : ∀ t ∈ its1, t.n ≤ 1000000000) (hw0 : its0.map It.xs = W) (hw1 : its1.map It.xs = RP) :
    Calls Try.prog 30 #[.agg #[.int .i64 sy, .int .i64 st, .slice A n cp], .agg #[.int .i64 s, .int .i64 hd, .int .i64 a, .slice A0 n0 c0, .slice A1 n1 c1, .slice A2 n2 c2], .slice C nc cc] w (CfgOut2 (fatR sy st rs s hd a W RP os cs) w) := by
  subst hw0; subst hw1
  exact sFormulaAt0_c sy st A n cp rs s hd a A0 n0 c0 its0 A1 n1 c1 its1 A2 n2 c2 os C nc cc cs w h h' h'' hn hn' hna hnb hn'' hi0 hi1
set_option maxHeartbeats 8000000 in
set_option maxRecDepth 100000 in
theorem iFormulaAt0_c (sy st : Int) (A : Option Addr) (n cp : Nat) (rs : List Rule3) (s hd a : Int) (A0 : Option Addr) (n0 c0 : Nat) (its0 : List It) (A1 : Option Addr) (n1 c1 : Nat) (its1 : List It) (A2 : Option Addr) (n2 c2 : Nat) (os : List Int) (C : Option Addr) (nc cc : Nat) (cs : List Int) (w : World)
    (h : RdS w [sgX enc3 3 A n rs]) (h' : RdS w (sgForm A0 n0 its0 A1 n1 its1 A2 n2 os)) (h'' : RdI w C nc cs) (hn : n ≤ 1000000000) (hn' : n0 ≤ 1000000000) (hna : n1 ≤ 1000000000) (hnb : n2 ≤ 1000000000) (hn'' : nc ≤ 1000000000) (hi0 : ∀ t ∈ its0, t.n ≤ 1000000000) (hi1 : ∀ t ∈ its1, t.n ≤ 1000000000) :
    Calls Try.prog 32 #[.agg #[.int .i64 sy, .int .i64 st, .slice A n cp], .agg #[.int .i64 s, .int .i64 hd, .int .i64 a, .slice A0 n0 c0, .slice A1 n1 c1, .slice A2 n2 c2], .slice C nc cc] w (CfgOut2 (fatR sy st rs s hd a (its0.map It.xs) (its1.map It.xs) os cs) w) := by
  have H := Lib.hid h; have H' := Lib.hid h'; have HC := Lib.hid h''
  have HLC := Lib.hid h''.len; have HL1 := Lib.hid (RdII.len h'.left.right); have HL2 := Lib.hid (show os.length = n2 from RdI.len (show RdI w A2 n2 os from h'.right.head))
  clear h h' h''
  obtain ⟨w0, hw0⟩ : ∃ w0, ((w.alloc (.cells #[i64 sy, i64 st, .slice A n cp] 34)).alloc (.cells #[i64 s, i64 hd, i64 a, .slice A0 n0 c0, .slice A1 n1 c1, .slice A2 n2 c2] 29)).alloc (.cells #[i64 0, .slice none 0 0, .slice none 0 0] 59) = w0 := ⟨_, rfl⟩
  obtain ⟨b0, b1, b2⟩ := boxes3 w #[i64 sy, i64 st, .slice A n cp] #[i64 s, i64 hd, i64 a, .slice A0 n0 c0, .slice A1 n1 c1, .slice A2 n2 c2] #[i64 0, .slice none 0 0, .slice none 0 0] 34 29 59
  rw [hw0] at b0 b1 b2
  have B0 := Lib.hid (show Below w.heap.size w w0 by rw [← hw0]; exact ((below_size.alloc (Nat.le_refl _) _).alloc (by simp) _).alloc (by simp; omega) _)
  have M0 := Lib.hid b0; have F0 := Lib.hid b1
  have Z0 := Lib.hid (show Blk w0 (w.heap.size + 2) 59 #[i64 0, .slice none 0 0, .slice none 0 0] from b2)
  have hz0 : w.heap.size + 3 ≤ w0.heap.size := by rw [← hw0]; simp
  obtain ⟨v, hv⟩ : ∃ v, vformB sy st rs s hd a (its0.map It.xs) (its1.map It.xs) os = v := ⟨_, rfl⟩
  obtain ⟨R, hR⟩ : ∃ R, fatR sy st rs s hd a (its0.map It.xs) (its1.map It.xs) os cs = R := ⟨_, rfl⟩
  rw [hR]
  have HR := Lib.hid hR
  have HV := Lib.hid hv
  have HI0 := Lib.hid hi0; have HI1 := Lib.hid hi1
  have HVC := Lib.hid (iValidFormula_c sy st A n cp rs s hd a A0 n0 c0 its0 A1 n1 c1 its1 A2 n2 c2 os w0 (H.out.below B0.out) (H'.out.below B0.out) hn hn' hna hnb hi0 hi1)
  rw [hv] at HVC
  clear hi0 hi1 hR b0 b1 b2 hv
  have m0 := M0.out.cell 0; have m1 := M0.out.cell 1; have m2 := M0.out.cell 2
  have k0 := F0.out.cell 0; have k1 := F0.out.cell 1; have k2 := F0.out.cell 2; have k3 := F0.out.cell 3; have k4 := F0.out.cell 4; have k5 := F0.out.cell 5
  simp at m0 m1 m2 k0 k1 k2 k3 k4 k5
  go_enter Try.func32, Try.ntmps32
  go_wp2_with fail
  refine HVC.out.mono ?_
  rintro e w2 ⟨rfl, hb⟩
  have T2 := Lib.hid (below_chain B0.out B0.out.size hb)
  have M2 := Lib.hid (M0.out.keep hb); have F2 := Lib.hid (F0.out.keep hb); have Z2 := Lib.hid (Z0.out.keep hb)
  have hz2 : w.heap.size + 3 ≤ w2.heap.size := Nat.le_trans hz0 hb.size
  clear hb HVC m0 m1 m2 k0 k1 k2 k3 k4 k5 hw0
  have k4 := F2.out.cell 4
  have z0 := Z2.out.cell 0; have z1 := Z2.out.cell 1; have z2 := Z2.out.cell 2; have y0 := Z2.out.frozen 0; have y1 := Z2.out.frozen 1; have y2 := Z2.out.frozen 2
  simp at k4 z0 z1 z2
  cases v
  · go_wp2_with fail
    refine bodyPost_ret (v := .tuple #[.agg #[i64 0, .slice none 0 0, .slice none 0 0], i64 1]) (by simp [results, Try.results32, go_sem, z0, z1, z2]) rfl ?_
    rw [show R = (zeroC, 1) by rw [← HR.out, fatR, HV.out]; rfl]
    exact CfgOut2.bad 1 (bad3 T2.out (by omega))
  have HFB := Lib.hid (show machB sy st rs = true ∧ formB sy st s hd a (its0.map It.xs) (its1.map It.xs) os = true by have h := HV.out; rw [vformB, Bool.and_eq_true] at h; exact h)
  have OK := Lib.hid (formB_ok HFB.out.2)
  have hr3 : n1 ≤ 3 := by have := OK.out.r; rw [List.length_map, HL1.out] at this; exact this.2
  have hno : n1 ≤ n2 ∧ n2 ≤ n1 := by have := OK.out.no; rw [List.length_map, HL1.out, HL2.out] at this; omega
  by_cases hlen : nc = n1
  rotate_left
  · have en : ((nc : Int) != (n1 : Int)) = true := by simp; omega
    have HE := Lib.hid (show R = (zeroC, 2) by rw [← HR.out]; exact fatR_len HV.out (by rw [List.length_map, HLC.out, HL1.out]; exact hlen))
    clear hlen
    go_wp2_with fail
    refine bodyPost_ret (v := .tuple #[.agg #[i64 0, .slice none 0 0, .slice none 0 0], i64 2]) (by simp [results, Try.results32, go_sem, z0, z1, z2]) rfl ?_
    rw [HE.out]
    exact CfgOut2.bad 2 (bad3 T2.out (by omega))
  have en : ((nc : Int) != (n1 : Int)) = false := by simp; omega
  have HLN := Lib.hid (show cs.length = (its1.map It.xs).length by rw [List.length_map, HLC.out, HL1.out]; exact hlen)
  have hnc : nc ≤ n1 ∧ n1 ≤ nc := by omega
  clear hlen
  obtain ⟨u, hu⟩ : ∃ u, allB 0 64 cs = u := ⟨_, rfl⟩
  have HU := Lib.hid hu
  have HAL := Lib.hid (allWithin_b C nc cc cs 0 64 u hu w2 (HC.out.below T2.out) (by omega))
  clear hu
  cases u
  · have HE := Lib.hid (show R = (zeroC, 2) by rw [← HR.out]; exact fatR_all HV.out HLN.out HU.out)
    go_wp2_with fail
    refine HAL.out.mono ?_
    rintro e w' ⟨rfl, rfl⟩
    clear HAL
    go_wp2_with fail
    refine bodyPost_ret (v := .tuple #[.agg #[i64 0, .slice none 0 0, .slice none 0 0], i64 2]) (by simp [results, Try.results32, go_sem, z0, z1, z2]) rfl ?_
    rw [HE.out]
    exact CfgOut2.bad 2 (bad3 T2.out (by omega))
  go_wp2_with fail
  refine HAL.out.mono ?_
  rintro e w' ⟨rfl, rfl⟩
  clear HAL
  go_wp2_with fail
  clear en k4 z0 z1 z2 y0 y1 y2
  go_loopw [29] (fun iv wr => ∃ k : Nat, k ≤ nc ∧ iv = .int .i64 k ∧ Hid (negB (cs.drop k) (os.drop k) = negB cs os) ∧ w2 = wr) (fun iv _ => nc - (intOf iv).toNat)
  case atStart => exact ⟨0, by omega, rfl, rfl, rfl⟩
  case round =>
    obtain ⟨k, hk, rfl, hneg, rfl⟩ := hrel
    by_cases hlt : k < nc
    · obtain ⟨ac, x, rfl, _, hx, hcx⟩ := (HC.out.below T2.out).at_ hlt
      obtain ⟨ao, o, rfl, _, ho, hco⟩ := (RdI.below (show RdI w A2 n2 os from H'.out.right.head) T2.out).at_ (k := k) (by omega)
      have hxo := allB_mem HU.out x (List.mem_of_getElem? hx)
      have hoo := OK.out.o o (List.mem_of_getElem? ho)
      have HNE := Lib.hid (negB_at hx ho)
      have k5 := F2.out.cell 5
      simp at k5
      have hk2 : k < n2 := by omega
      have v1 : wrap64 (x + o) = x + o := by unfold wrap64; omega
      have z0 := Z2.out.cell 0; have z1 := Z2.out.cell 1; have z2 := Z2.out.cell 2; have y0 := Z2.out.frozen 0; have y1 := Z2.out.frozen 1; have y2 := Z2.out.frozen 2
      simp at z0 z1 z2
      clear hx ho
      by_cases hn0 : x + o < 0
      · have dn : decide (x + o < 0) = true := decide_eq_true hn0
        have HE := Lib.hid (show R = (zeroC, 7) by
          rw [← HR.out]
          refine fatR_neg HV.out HLN.out HU.out ?_
          rw [← hneg.out, HNE.out, dn]; rfl)
        go_wp2_with fail
        refine bodyPost_ret (v := .tuple #[.agg #[i64 0, .slice none 0 0, .slice none 0 0], i64 7]) (by simp [results, Try.results32, go_sem, z0, z1, z2]) rfl ?_
        rw [HE.out]
        exact CfgOut2.bad 7 (bad3 T2.out (by omega))
      · have dn : decide (x + o < 0) = false := decide_eq_false hn0
        have HN := Lib.hid (show negB (cs.drop (k + 1)) (os.drop (k + 1)) = negB cs os by rw [← hneg.out, HNE.out, dn, Bool.false_or])
        have vk : IntKind.i64.wrap ((k : Int) + 1) = (k : Int) + 1 := IntWalk.i64_in _ (by omega)
        go_wp2_with fail
        go_roundw
        case rel => exact ⟨k + 1, by omega, by go_num, HN.out, by first | rfl | trivial⟩
        case measure => simp [intOf]; omega
    · have HNG := Lib.hid (show negB cs os = false by rw [← hneg.out, show cs.drop k = [] from List.drop_eq_nil_of_le (by rw [HLC.out]; omega)]; exact negB_nil)
      have HE := Lib.hid (show R = fatO s hd a (its0.map It.xs) (its1.map It.xs) os cs by rw [← HR.out]; exact fatR_ok HV.out HLN.out HU.out HNG.out)
      have CN := Lib.hid (cnt_ok OK.out HLN.out HU.out HNG.out)
      have hh := H'.out.below T2.out
      have HCC := Lib.hid (formulaAt_c sy st s hd a A n cp A0 n0 c0 its0 A1 n1 c1 its1 A2 n2 c2 os C nc cc cs w2 hh.left.left hh.left.right hh.right.head (HC.out.below T2.out) OK.out CN.out)
      rw [← HE.out] at HCC
      have m0 := M2.out.cell 0; have m1 := M2.out.cell 1; have m2 := M2.out.cell 2
      have k0 := F2.out.cell 0; have k1 := F2.out.cell 1; have k2 := F2.out.cell 2; have k3 := F2.out.cell 3; have k4 := F2.out.cell 4; have k5 := F2.out.cell 5
      simp at m0 m1 m2 k0 k1 k2 k3 k4 k5
      clear hneg hh
      go_wp2_with fail
      refine HCC.out.mono ?_
      rintro e w5 ⟨A5, n5, c5, B5, m5, d5, rfl, hS5, ⟨hn5, hm5⟩, hb5⟩
      have S5 := Lib.hid hS5
      have Z5 := Lib.hid (Z2.out.keep hb5)
      have T5 := Lib.hid (below_chain T2.out T2.out.size hb5)
      have hz5 := hb5.size
      clear hb5 hS5 m0 m1 m2 k0 k1 k2 k3 k4 k5
      have z0 := Z5.out.cell 0; have z1 := Z5.out.cell 1; have z2 := Z5.out.cell 2; have y0 := Z5.out.frozen 0; have y1 := Z5.out.frozen 1; have y2 := Z5.out.frozen 2
      simp at z0 z1 z2
      obtain ⟨⟨D1, L, M⟩, code⟩ := R
      go_wp2_with fail
      refine bodyPost_ret (v := .tuple #[.agg #[i64 D1, .slice A5 n5 c5, .slice B5 m5 d5], i64 code]) (by simp [results, Try.results32, go_sem, z0, z1, z2]) rfl ?_
      exact CfgOut2.ofc (g := w.heap.size + 2) S5.out (by omega) (by omega) (by omega) hn5 hm5 T5.out (by omega)
theorem iFormulaAt_c (sy st : Int) (A : Option Addr) (n cp : Nat) (rs : List Rule3) (s hd a : Int) (A0 : Option Addr) (n0 c0 : Nat) (its0 : List It) (A1 : Option Addr) (n1 c1 : Nat) (its1 : List It) (A2 : Option Addr) (n2 c2 : Nat) (os : List Int) (C : Option Addr) (nc cc : Nat) (cs : List Int) (w : World) {W RP : List (List Int)}
    (h : RdS w [sgX enc3 3 A n rs]) (h' : RdS w (sgForm A0 n0 its0 A1 n1 its1 A2 n2 os)) (h'' : RdI w C nc cs) (hn : n ≤ 1000000000) (hn' : n0 ≤ 1000000000) (hna : n1 ≤ 1000000000) (hnb : n2 ≤ 1000000000) (hn'' : nc ≤ 1000000000) (hi0 : ∀ t ∈ its0, t.n ≤ 1000000000) (hi1 : ∀ t ∈ its1, t.n ≤ 1000000000) (hw0 : its0.map It.xs = W) (hw1 : its1.map It.xs = RP) :
    Calls Try.prog 32 #[.agg #[.int .i64 sy, .int .i64 st, .slice A n cp], .agg #[.int .i64 s, .int .i64 hd, .int .i64 a, .slice A0 n0 c0, .slice A1 n1 c1, .slice A2 n2 c2], .slice C nc cc] w (CfgOut2 (fatR sy st rs s hd a W RP os cs) w) := by
  subst hw0; subst hw1
  exact iFormulaAt0_c sy st A n cp rs s hd a A0 n0 c0 its0 A1 n1 c1 its1 A2 n2 c2 os C nc cc cs w h h' h'' hn hn' hna hnb hn'' hi0 hi1
end Go.Proofs.Ytmmgejnhfpfmnaa
