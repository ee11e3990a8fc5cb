/-
  Parts of the proof, one behind the other: contracts of the functions that the law reaches, and plain laws.
-/
import Derived.Test.YtebjpmmgdkepjaaGreatDoorLot14
import Derived.Test.YtebjpmmgdkepjaaGreatDoorLot15
/-
  Contracts of chapter 12: lambda terms of the reference: substituting.
-/
namespace Go.Proofs.YtebjpmmgdkepjaaGreatDoor
open Go.RowKit

def opG (a : List (Int × Int)) (y : (Int × Int) × Nat) : List (Int × Int) := if y.1.1 = 0 then opF a y.1 y.2 else [y.1]
theorem openL_flat (a b : List (Int × Int)) : openL a b = (b.zip (depL b [0])).flatMap (opG a) := mapL_flat _ _ _
theorem opG_len (a : List (Int × Int)) (y : (Int × Int) × Nat) : (opG a y).length ≤ a.length + 1 := by
  unfold opG
  split
  · exact opF_len a y.1 y.2
  · simp
set_option maxHeartbeats 4000000 in
set_option maxRecDepth 100000 in
theorem l12Open_c (A : Option Addr) (n cp : Nat) (b : List (Int × Int)) (A2 : Option Addr) (m cp2 : Nat) (a S : List (Int × Int)) (w : World) (h : Rd2 w A n b) (ha : Rd2 w A2 m a) (hn : n ≤ 400) (hm : m ≤ 400) (hv : endP manyL b 1 = some b.length) (hva : endP manyL a 1 = some a.length) (hok : ∀ x ∈ b, okL x = true) (hoka : ∀ x ∈ a, okL x = true) (hS : openL a b = S) :
    Calls Tryz.prog 125 #[.slice A n cp, .slice A2 m cp2] w fun e w' => ∃ A' N c', e = .returned (.slice A' N c') ∧ Wr w' w.heap.size w'.heap.size A' (N * 2) (S.flatMap enc2) ∧ N ≤ c' ∧ Below w.heap.size w w' := by
  have hl := h.len
  have hdl : (depL b [0]).length = n := by rw [← hl]; exact depL_len hv
  obtain ⟨D, hD⟩ : ∃ D, depL b [0] = D := ⟨_, rfl⟩
  rw [hD] at hdl
  have hDb : ∀ d ∈ D, d ≤ n := fun d hd => by rw [← hD] at hd; have := depL_le (M := 0) (st := [0]) (l := b) (by simp) d hd; omega
  have HSZ := Lib.hid (show (b.zip D).flatMap (opG a) = S by rw [← hS, openL_flat, hD])
  have HL := Lib.hid hl; have HDL := Lib.hid hdl; have HDB := Lib.hid hDb; have HV := Lib.hid hv; have HVA := Lib.hid hva; have HD := Lib.hid hD; have HOK := Lib.hid hok; have HOKA := Lib.hid hoka
  have H := Lib.hid h; have HA := Lib.hid ha
  have hma := ha.len
  have hn1 : 1 ≤ n := by rw [← hl]; rcases Nat.eq_zero_or_pos b.length with h0 | h0; (· rw [List.length_eq_zero_iff.1 h0] at hv; cases hv); (· exact h0)
  have HMA := Lib.hid hma
  have B0 := Lib.hid (show Below w.heap.size w (w.alloc (.cells #[] 62)) from below_size.alloc (Nat.le_refl _) _)
  have O0 := Lib.hid (show Own (w.alloc (.cells #[] 62)) w.heap.size 62 2 (some ⟨w.heap.size, 0, none⟩) 0 0 [] from Own.litK (Nat.le_refl _))
  clear h ha hv hva hok hoka hS hl hdl hDb hD hma
  go_enter Tryz.func125, Tryz.ntmps125
  go_wp2_with fail
  refine (l12Depths_c A n cp b _ (H.out.alloc _) (by omega) HV.out).mono ?_
  rw [HD.out]
  rintro e w2 ⟨AD, c2, rfl, hw2, hb2⟩
  have B2 := Lib.hid (below_chain B0.out B0.out.size hb2)
  have O2 := Lib.hid (O0.out.keep hb2)
  obtain ⟨ag, rfl, hag1, hag2, _⟩ := hw2.2 (by omega)
  have D2 := Lib.hid (show RdI w2 (some ag) n (dpI D) from hw2.rdI)
  have hne0 : w.heap.size ≠ ag.block := by simp at hag1; omega
  have hz2 := B2.out.size
  clear hw2 hb2 O0
  go_wp2_with fail
  go_loopw [5, 7] (fun ov iv wr => ∃ (k mm cc : Nat) (ao : Addr) (b0 : List (Int × Int)), k ≤ n ∧ mm ≤ 401 * k ∧ iv = .int .i64 k ∧ ov = .slice (some ao) mm cc ∧ ao.block ≠ ag.block ∧ Hid (Own wr w.heap.size 62 2 (some ao) mm cc (b0.flatMap enc2)) ∧ Hid (b0 ++ ((b.zip D).drop k).flatMap (opG a) = S) ∧ Hid (RdI wr (some ag) n (dpI D)) ∧ Below w.heap.size w wr) (fun _ iv _ => n - (intOf iv).toNat)
  case atStart => exact ⟨0, 0, 0, ⟨w.heap.size, 0, none⟩, [], by omega, by omega, rfl, rfl, hne0, O2.out, HSZ.out, D2.out, B2.out⟩
  case round =>
    clear O2 D2
    obtain ⟨k, mm, cc, ao, b0, hk, hmm, rfl, rfl, hne, hO, hr, hDd, hb⟩ := hrel
    have HB := Lib.hid hb
    have hzr := hb.size
    by_cases hlt : k < n
    · obtain ⟨ad, x, rfl, hab, hx, hc0, hc1⟩ := (H.out.below hb).at_ hlt
      obtain ⟨d, hd⟩ : ∃ d, D[k]? = some d := ⟨_, List.getElem?_eq_getElem (by rw [HDL.out]; exact hlt)⟩
      have hdn := HDB.out d (List.mem_of_getElem? hd)
      have hox := okL_cases (HOK.out x (List.mem_of_getElem? hx))
      obtain ⟨_, g, e, hag, hg, hcg⟩ := RdI.at_ hDd.out (k := k) hlt
      injection e with e; subst e
      have hgd : g = (d : Int) := by
        rw [dpI, List.getElem?_map, hd] at hg
        injection hg with hg; exact hg.symm
      subst hgd
      have hzk : (b.zip D)[k]? = some (x, d) := by rw [List.getElem?_zip_eq_some]; exact ⟨hx, hd⟩
      have HR := Lib.hid (show b0 ++ (opG a (x, d) ++ ((b.zip D).drop (k + 1)).flatMap (opG a)) = S by rw [← hr.out, drop_at hzk, List.flatMap_cons])
      obtain ⟨t, v⟩ := x
      simp only at hc0 hc1 hox
      obtain ⟨w6, hw6⟩ : ∃ w6, wr.alloc (.cells #[.int .i64 t, .int .i64 v] 62) = w6 := ⟨_, rfl⟩
      have E6 := Lib.hid (show Below wr.heap.size wr w6 by rw [← hw6]; exact below_size.alloc (Nat.le_refl _) _)
      have K6 := Lib.hid (show Blk w6 wr.heap.size 62 #[.int .i64 t, .int .i64 v] by rw [← hw6]; exact Blk.new _ _ _)
      have y0 : w6.cell? ⟨wr.heap.size, 0, none⟩ = some (.int .i64 t) := K6.out.cell 0
      have y1 : w6.cell? ⟨wr.heap.size, 1, none⟩ = some (.int .i64 v) := K6.out.cell 1
      have yd := keepc E6.out hcg
      clear hb hx hr hd hzk hg
      by_cases h0 : t = 0
      · subst h0
        by_cases hvd : v = (d : Int)
        · subst hvd
          obtain ⟨SA, hSA⟩ : ∃ SA, shiftL d a = SA := ⟨_, rfl⟩
          have HSA := Lib.hid hSA
          have hsl : SA.length ≤ m := by rw [← hSA, ← HMA.out]; exact shiftL_len d a
          have HG := Lib.hid (show (b0 ++ SA) ++ ((b.zip D).drop (k + 1)).flatMap (opG a) = S by rw [← HR.out, opG, if_pos rfl, opF, if_pos rfl, hSA, List.append_assoc])
          clear hSA HR
          go_wp2_with fail
          go_quiet (fail)
          obtain ⟨w7, hw7⟩ : ∃ w7, w6.drewN nq = w7 := ⟨_, rfl⟩
          rw [hw7]
          have E7 := Lib.hid (show Below wr.heap.size wr w7 by rw [← hw7]; exact below_drewN E6.out _)
          have K7 := Lib.hid (show Blk w7 wr.heap.size 62 #[.int .i64 0, .int .i64 (d : Int)] by rw [← hw7]; exact K6.out)
          have p7 : w7.cell? ⟨wr.heap.size, 0, none⟩ = some (.int .i64 0) := K7.out.cell 0
          have q7 : w7.cell? ⟨wr.heap.size, 1, none⟩ = some (.int .i64 (d : Int)) := K7.out.cell 1
          have f7 := K7.out.frozen 1
          have d7 := keepc E7.out hcg
          have hz7 := E7.out.size
          clear hw7
          go_wp2_with (first
            | (go_at_call 167; refine (l12Shift_c A2 m cp2 a d SA w7 (HA.out.below (below_chain HB.out hzr E7.out)) (by omega) HVA.out HOKA.out (by omega) HSA.out).mono ?_; rintro e w8 ⟨A8, c8, rfl, hw8, hc8, hb8⟩; have hm8 := len2_of hw8; have R8 := Lib.hid (show Rd2 w8 A8 m SA from hw8.rd); have E8 := Lib.hid (below_chain E7.out hz7 hb8))
            | (at_builtin; refine wp_appLam (by rfl) _ _ (by rfl) w.heap.size _ _ _ _ (by rfl) (by exact hO.out.keep E8.out) _ _ _ SA (by rfl) (by exact R8.out) (by omega) (by have := E8.out.size; omega) ?_; intro A9 c9 w9 own9 hb9 hk9 hg9 hz9))
          rw [← List.flatMap_append] at own9
          have O9 := Lib.hid own9; have B9 := Lib.hid ((below_chain HB.out hzr (E8.out)).trans hb9)
          have hzy := (Below.size (E8.out))
          have DD := Lib.hid (show RdI w9 (some ag) n (dpI D) from Rd.atBlk (RdI.below hDd.out (E8.out)) (fun a ha _ => by injection ha with ha; subst ha; exact hk9 _ (by omega) (fun ad' h => by injection h with h; subst h; exact hne)) hz9)
          obtain ⟨aj, hAj, nej⟩ : ∃ a', A9 = some a' ∧ a'.block ≠ ag.block := by
            rcases hg9 with h | h
            · exact ⟨ao, h, hne⟩
            · exact ⟨_, h, Nat.ne_of_gt (Nat.lt_of_lt_of_le hag hzy)⟩
          subst hAj
          clear own9 hb9 hk9 hg9 hz9
          go_roundw
          case rel => exact ⟨k + 1, mm + m, c9, aj, b0 ++ SA, by omega, by omega, by go_num, rfl, nej, O9.out, HG.out, DD.out, B9.out⟩
          case measure => simp [intOf]; omega
        · have g1 : (v == (d : Int)) = false := by simpa using hvd
          by_cases hgt : (d : Int) < v
          · have g2 : decide ((d : Int) < v) = true := by rw [decide_eq_true_eq]; exact hgt
            have v1 : IntKind.i64.wrap (v - 1) = v - 1 := IntWalk.i64_in _ (by omega)
            have HG := Lib.hid (show (b0 ++ [((0 : Int), v - 1)]) ++ ((b.zip D).drop (k + 1)).flatMap (opG a) = S by rw [← HR.out, opG, if_pos rfl, opF, if_neg hvd, if_pos hgt, List.append_assoc])
            clear HR
            go_wp2_with fail
            go_quiet (fail)
            obtain ⟨w7, hw7⟩ : ∃ w7, w6.drewN nq = w7 := ⟨_, rfl⟩
            rw [hw7]
            have E7 := Lib.hid (show Below wr.heap.size wr w7 by rw [← hw7]; exact below_drewN E6.out _)
            have K7 := Lib.hid (show Blk w7 wr.heap.size 62 #[.int .i64 0, .int .i64 v] by rw [← hw7]; exact K6.out)
            have p7 : w7.cell? ⟨wr.heap.size, 0, none⟩ = some (.int .i64 0) := K7.out.cell 0
            have q7 : w7.cell? ⟨wr.heap.size, 1, none⟩ = some (.int .i64 v) := K7.out.cell 1
            have f7 := K7.out.frozen 1
            have d7 := keepc E7.out hcg
            have hz7 := E7.out.size
            clear hw7
            go_wp2_with fail
            go_quiet (fail)
            obtain ⟨w8, hw8⟩ : ∃ w8, w7.drewN nq = w8 := ⟨_, rfl⟩
            rw [hw8]
            have E8 := Lib.hid (show Below wr.heap.size wr w8 by rw [← hw8]; exact below_drewN E7.out _)
            have K8 := Lib.hid (show Blk w8 wr.heap.size 62 #[.int .i64 0, .int .i64 v] by rw [← hw8]; exact K7.out)
            have p8 : w8.cell? ⟨wr.heap.size, 0, none⟩ = some (.int .i64 0) := K8.out.cell 0
            have q8 : w8.cell? ⟨wr.heap.size, 1, none⟩ = some (.int .i64 v) := K8.out.cell 1
            have f8 := K8.out.frozen 1
            have d8 := keepc E8.out hcg
            have hz8 := E8.out.size
            clear hw8
            obtain ⟨w9, hw9⟩ : ∃ w9, w8.setCell ⟨wr.heap.size, 1, none⟩ (.int .i64 (v - 1)) = w9 := ⟨_, rfl⟩
            have K9 := Lib.hid (show Blk w9 wr.heap.size 62 #[.int .i64 0, .int .i64 (v - 1)] by rw [← hw9]; exact K8.out.set_ 1 _)
            have E9 := Lib.hid (show Below wr.heap.size wr w9 by rw [← hw9]; exact E8.out.setCell (Nat.le_refl _) _)
            have p9 : w9.cell? ⟨wr.heap.size, 0, none⟩ = some (.int .i64 0) := K9.out.cell 0
            have q9 : w9.cell? ⟨wr.heap.size, 1, none⟩ = some (.int .i64 (v - 1)) := K9.out.cell 1
            have hz9 := E9.out.size
            go_wp2_with (at_builtin; refine wp_appLam (by rfl) _ _ (by rfl) w.heap.size _ _ _ _ (by rfl) (by exact hO.out.keep (E9.out.alloc hz9 _)) _ _ _ ([((0 : Int), v - 1)]) (by rfl) (by exact rd_new2 ([((0 : Int), v - 1)]) _ rfl rfl) (by omega) (by first | omega | (simp; omega) | (simp; done)) ?_; intro A10 c10 w10 own10 hb10 hk10 hg10 hz10)
            rw [← List.flatMap_append] at own10
            have O10 := Lib.hid own10; have B10 := Lib.hid ((below_chain HB.out hzr (E9.out.alloc hz9 (.cells #[.int .i64 0, .int .i64 (v - 1)] 62))).trans hb10)
            have hzy := (Below.size (E9.out.alloc hz9 (.cells #[.int .i64 0, .int .i64 (v - 1)] 62)))
            have DD := Lib.hid (show RdI w10 (some ag) n (dpI D) from Rd.atBlk (RdI.below hDd.out (E9.out.alloc hz9 (.cells #[.int .i64 0, .int .i64 (v - 1)] 62))) (fun a ha _ => by injection ha with ha; subst ha; exact hk10 _ (by omega) (fun ad' h => by injection h with h; subst h; exact hne)) hz10)
            obtain ⟨aj, hAj, nej⟩ : ∃ a', A10 = some a' ∧ a'.block ≠ ag.block := by
              rcases hg10 with h | h
              · exact ⟨ao, h, hne⟩
              · exact ⟨_, h, Nat.ne_of_gt (Nat.lt_of_lt_of_le hag hzy)⟩
            subst hAj
            clear own10 hb10 hk10 hg10 hz10
            go_roundw
            case rel => exact ⟨k + 1, mm + 1, c10, aj, b0 ++ [((0 : Int), v - 1)], by omega, by omega, by go_num, rfl, nej, O10.out, HG.out, DD.out, B10.out⟩
            case measure => simp [intOf]; omega
          · have g2 : decide ((d : Int) < v) = false := by rw [decide_eq_false_iff_not]; exact hgt
            have HG := Lib.hid (show (b0 ++ [((0 : Int), v)]) ++ ((b.zip D).drop (k + 1)).flatMap (opG a) = S by rw [← HR.out, opG, if_pos rfl, opF, if_neg hvd, if_neg hgt, List.append_assoc])
            clear HR
            go_wp2_with fail
            go_quiet (fail)
            obtain ⟨w7, hw7⟩ : ∃ w7, w6.drewN nq = w7 := ⟨_, rfl⟩
            rw [hw7]
            have E7 := Lib.hid (show Below wr.heap.size wr w7 by rw [← hw7]; exact below_drewN E6.out _)
            have K7 := Lib.hid (show Blk w7 wr.heap.size 62 #[.int .i64 0, .int .i64 v] by rw [← hw7]; exact K6.out)
            have p7 : w7.cell? ⟨wr.heap.size, 0, none⟩ = some (.int .i64 0) := K7.out.cell 0
            have q7 : w7.cell? ⟨wr.heap.size, 1, none⟩ = some (.int .i64 v) := K7.out.cell 1
            have f7 := K7.out.frozen 1
            have d7 := keepc E7.out hcg
            have hz7 := E7.out.size
            clear hw7
            go_wp2_with fail
            go_quiet (fail)
            obtain ⟨w8, hw8⟩ : ∃ w8, w7.drewN nq = w8 := ⟨_, rfl⟩
            rw [hw8]
            have E8 := Lib.hid (show Below wr.heap.size wr w8 by rw [← hw8]; exact below_drewN E7.out _)
            have K8 := Lib.hid (show Blk w8 wr.heap.size 62 #[.int .i64 0, .int .i64 v] by rw [← hw8]; exact K7.out)
            have p8 : w8.cell? ⟨wr.heap.size, 0, none⟩ = some (.int .i64 0) := K8.out.cell 0
            have q8 : w8.cell? ⟨wr.heap.size, 1, none⟩ = some (.int .i64 v) := K8.out.cell 1
            have f8 := K8.out.frozen 1
            have d8 := keepc E8.out hcg
            have hz8 := E8.out.size
            clear hw8
            go_wp2_with (at_builtin; refine wp_appLam (by rfl) _ _ (by rfl) w.heap.size _ _ _ _ (by rfl) (by exact hO.out.keep (E8.out.alloc hz8 _)) _ _ _ ([((0 : Int), v)]) (by rfl) (by exact rd_new2 ([((0 : Int), v)]) _ rfl rfl) (by omega) (by first | omega | (simp; omega) | (simp; done)) ?_; intro A10 c10 w10 own10 hb10 hk10 hg10 hz10)
            rw [← List.flatMap_append] at own10
            have O10 := Lib.hid own10; have B10 := Lib.hid ((below_chain HB.out hzr (E8.out.alloc hz8 (.cells #[.int .i64 0, .int .i64 v] 62))).trans hb10)
            have hzy := (Below.size (E8.out.alloc hz8 (.cells #[.int .i64 0, .int .i64 v] 62)))
            have DD := Lib.hid (show RdI w10 (some ag) n (dpI D) from Rd.atBlk (RdI.below hDd.out (E8.out.alloc hz8 (.cells #[.int .i64 0, .int .i64 v] 62))) (fun a ha _ => by injection ha with ha; subst ha; exact hk10 _ (by omega) (fun ad' h => by injection h with h; subst h; exact hne)) hz10)
            obtain ⟨aj, hAj, nej⟩ : ∃ a', A10 = some a' ∧ a'.block ≠ ag.block := by
              rcases hg10 with h | h
              · exact ⟨ao, h, hne⟩
              · exact ⟨_, h, Nat.ne_of_gt (Nat.lt_of_lt_of_le hag hzy)⟩
            subst hAj
            clear own10 hb10 hk10 hg10 hz10
            go_roundw
            case rel => exact ⟨k + 1, mm + 1, c10, aj, b0 ++ [((0 : Int), v)], by omega, by omega, by go_num, rfl, nej, O10.out, HG.out, DD.out, B10.out⟩
            case measure => simp [intOf]; omega
      · have g1 : (t == 0) = false := by simpa using h0
        have HG := Lib.hid (show (b0 ++ [(t, v)]) ++ ((b.zip D).drop (k + 1)).flatMap (opG a) = S by rw [← HR.out, opG, if_neg h0, List.append_assoc])
        clear HR
        go_wp2_with fail
        go_quiet (fail)
        obtain ⟨w7, hw7⟩ : ∃ w7, w6.drewN nq = w7 := ⟨_, rfl⟩
        rw [hw7]
        have E7 := Lib.hid (show Below wr.heap.size wr w7 by rw [← hw7]; exact below_drewN E6.out _)
        have K7 := Lib.hid (show Blk w7 wr.heap.size 62 #[.int .i64 t, .int .i64 v] by rw [← hw7]; exact K6.out)
        have p7 : w7.cell? ⟨wr.heap.size, 0, none⟩ = some (.int .i64 t) := K7.out.cell 0
        have q7 : w7.cell? ⟨wr.heap.size, 1, none⟩ = some (.int .i64 v) := K7.out.cell 1
        have f7 := K7.out.frozen 1
        have d7 := keepc E7.out hcg
        have hz7 := E7.out.size
        clear hw7
        go_wp2_with fail
        go_quiet (fail)
        obtain ⟨w8, hw8⟩ : ∃ w8, w7.drewN nq = w8 := ⟨_, rfl⟩
        rw [hw8]
        have E8 := Lib.hid (show Below wr.heap.size wr w8 by rw [← hw8]; exact below_drewN E7.out _)
        have K8 := Lib.hid (show Blk w8 wr.heap.size 62 #[.int .i64 t, .int .i64 v] by rw [← hw8]; exact K7.out)
        have p8 : w8.cell? ⟨wr.heap.size, 0, none⟩ = some (.int .i64 t) := K8.out.cell 0
        have q8 : w8.cell? ⟨wr.heap.size, 1, none⟩ = some (.int .i64 v) := K8.out.cell 1
        have f8 := K8.out.frozen 1
        have d8 := keepc E8.out hcg
        have hz8 := E8.out.size
        clear hw8
        go_wp2_with (at_builtin; refine wp_appLam (by rfl) _ _ (by rfl) w.heap.size _ _ _ _ (by rfl) (by exact hO.out.keep (E8.out.alloc hz8 _)) _ _ _ ([(t, v)]) (by rfl) (by exact rd_new2 ([(t, v)]) _ rfl rfl) (by omega) (by first | omega | (simp; omega) | (simp; done)) ?_; intro A10 c10 w10 own10 hb10 hk10 hg10 hz10)
        rw [← List.flatMap_append] at own10
        have O10 := Lib.hid own10; have B10 := Lib.hid ((below_chain HB.out hzr (E8.out.alloc hz8 (.cells #[.int .i64 t, .int .i64 v] 62))).trans hb10)
        have hzy := (Below.size (E8.out.alloc hz8 (.cells #[.int .i64 t, .int .i64 v] 62)))
        have DD := Lib.hid (show RdI w10 (some ag) n (dpI D) from Rd.atBlk (RdI.below hDd.out (E8.out.alloc hz8 (.cells #[.int .i64 t, .int .i64 v] 62))) (fun a ha _ => by injection ha with ha; subst ha; exact hk10 _ (by omega) (fun ad' h => by injection h with h; subst h; exact hne)) hz10)
        obtain ⟨aj, hAj, nej⟩ : ∃ a', A10 = some a' ∧ a'.block ≠ ag.block := by
          rcases hg10 with h | h
          · exact ⟨ao, h, hne⟩
          · exact ⟨_, h, Nat.ne_of_gt (Nat.lt_of_lt_of_le hag hzy)⟩
        subst hAj
        clear own10 hb10 hk10 hg10 hz10
        go_roundw
        case rel => exact ⟨k + 1, mm + 1, c10, aj, b0 ++ [(t, v)], by omega, by omega, by go_num, rfl, nej, O10.out, HG.out, DD.out, B10.out⟩
        case measure => simp [intOf]; omega
    · have HG := Lib.hid (show b0 = S by
        rw [← hr.out, List.drop_eq_nil_of_le (by rw [List.length_zip, HL.out, HDL.out]; omega)]; simp)
      clear hr hDd hb
      go_wp2_with fail
      go_ret
      rw [← HG.out]
      exact ⟨some ao, mm, cc, rfl, hO.out.wrK, hO.out.cap, HB.out⟩
end Go.Proofs.YtebjpmmgdkepjaaGreatDoor
/-
  Contracts of chapter 12: lambda terms of the reference: one step, the run.
-/
namespace Go.Proofs.YtebjpmmgdkepjaaGreatDoor
open Go.RowKit

set_option maxHeartbeats 4000000 in
set_option maxRecDepth 100000 in
theorem l12Step_c (A : Option Addr) (n cp : Nat) (c : List (Int × Int)) (k : Nat) (S : List (Int × Int)) (q : Bool) (w : World) (h : Rd2 w A n c) (hnc : n ≤ cp) (hv : validL c = true) (hk : k < n) (hf : redB (c.drop k) = true) (hS : stepL c k = S) (hq : validL S = q) :
    Calls Tryz.prog 81 #[.slice A n cp, .int .i64 k] w (StepOut S q w) := by
  have hl := h.len
  obtain ⟨hv1, hv2, hv3⟩ := validL_end hv
  rw [hl] at hv2 hv3
  have hSl : S.length ≤ 200000 := by rw [← hS]; exact stepL_len (by omega)
  obtain ⟨p, r, h1, h2, h3, h4, h5, h6, hp1, hr1⟩ := red_parts hv1 hf
  rw [hl] at h6
  obtain ⟨z, hz⟩ : ∃ z, k + 2 + p = z := ⟨_, rfl⟩
  obtain ⟨y, hy⟩ : ∃ y, z + r = y := ⟨_, rfl⟩
  rw [hz] at h2 h4 h5 h6
  rw [hy] at h5 h6
  have hbd : bodyL c k = (c.drop (k + 2)).take p := by rw [bodyL, h2, show z - (k + 2) = p by omega]
  have har : argL c k = (c.drop z).take r := by rw [argL, h2, h5, show y - z = r by omega]
  obtain ⟨M, hM⟩ : ∃ M, openL (argL c k) (bodyL c k) = M := ⟨_, rfl⟩
  have HS := Lib.hid (show c.take k ++ (M ++ c.drop y) = S by rw [← hS, stepL, hM, h2, h5])
  have HM := Lib.hid (show openL ((c.drop z).take r) ((c.drop (k + 2)).take p) = M by rw [← hM, hbd, har])
  have hbl : ((c.drop (k + 2)).take p).length = p := by rw [List.length_take, List.length_drop, hl]; omega
  have hal : ((c.drop z).take r).length = r := by rw [List.length_take, List.length_drop, hl]; omega
  have HVB := Lib.hid (show endP manyL ((c.drop (k + 2)).take p) 1 = some ((c.drop (k + 2)).take p).length by rw [hbl]; exact endP_take h1)
  have HVA := Lib.hid (show endP manyL ((c.drop z).take r) 1 = some ((c.drop z).take r).length by rw [hal]; exact endP_take h4)
  have HOB := Lib.hid (show ∀ x ∈ (c.drop (k + 2)).take p, okL x = true from fun x hx => validL_ok hv x (List.mem_of_mem_drop (List.mem_of_mem_take hx)))
  have HOA := Lib.hid (show ∀ x ∈ (c.drop z).take r, okL x = true from fun x hx => validL_ok hv x (List.mem_of_mem_drop (List.mem_of_mem_take hx)))
  have HE1 := Lib.hid h3; have HE2 := Lib.hid h4
  have HZ1 := Lib.hid (show k + 1 + (p + 1) = z by omega)
  have HY1 := Lib.hid hy
  have HQ := Lib.hid hq; have HL := Lib.hid hl
  obtain ⟨ad, rfl, hab, _⟩ := h.2 (by omega)
  have H := Lib.hid h
  have hkz : k + 2 < z := by omega
  obtain rfl : p = z - (k + 2) := by omega
  obtain rfl : r = y - z := by omega
  have hzy : z < y := by omega
  have hMl : M.length ≤ 200000 := by have h7 := congrArg List.length HS.out; simp at h7; omega
  have HT := Lib.hid (show Rd2 (w.alloc (.cells #[] 62)) (some ad) k (c.take k) from (h.alloc _).upto k (by omega))
  clear h hv hv1 hl hf hS hq h1 h2 h3 h4 h5 hz hy hbd har hM hbl hal
  have v1 : IntKind.i64.wrap ((k : Int) + 1) = ((k + 1 : Nat) : Int) := by rw [IntWalk.i64_in _ (by omega)]; omega
  have v2 : IntKind.i64.wrap ((k : Int) + 2) = ((k + 2 : Nat) : Int) := by rw [IntWalk.i64_in _ (by omega)]; omega
  have hkc : k ≤ cp := by omega
  go_enter Tryz.func81, Tryz.ntmps81
  go_wp2_with fail
  refine (l12End_c _ _ _ c (k + 1) (z - (k + 2) + 1) z _ H.out (by omega) HE1.out HZ1.out).mono ?_
  rintro e w' ⟨rfl, rfl⟩
  go_wp2_with fail
  refine (l12End_c _ _ _ c z (y - z) y _ H.out (by omega) HE2.out HY1.out).mono ?_
  rintro e w' ⟨rfl, rfl⟩
  go_wp2_with (at_builtin; refine wp_appLam (by rfl) _ _ (by rfl) w.heap.size (some ⟨w.heap.size, 0, none⟩) 0 0 [] (by rfl) (by exact Own.litK (Nat.le_refl _)) (some ad) k cp (c.take k) (by rfl) (by exact HT.out) (by omega) (by simp) ?_; intro A1 c1 w1 own1 hb1 hk1 hg1 hz1)
  rw [Nat.zero_add, List.nil_append] at own1
  have O1 := Lib.hid own1; have B1 := Lib.hid ((below_size.alloc (Nat.le_refl _) (.cells #[] 62)).trans hb1)
  have hz1 := B1.out.size
  clear own1 hb1 hk1 hg1
  have hzc : z ≤ cp := by omega
  have hyc : y ≤ cp := by omega
  have hk2z : k + 2 ≤ z := by omega
  have hzy' : z ≤ y := by omega
  have hkc2 : k + 2 < cp := by omega
  have hzc2 : z < cp := by omega
  have RB := Lib.hid (show Rd2 w1.drew (some (ad.add ((k + 2) * 2))) (z - (k + 2)) ((c.drop (k + 2)).take (z - (k + 2))) from (H.out.below (below_drew B1.out)).part (k + 2) (z - (k + 2)) (by omega))
  have RA := Lib.hid (show Rd2 w1.drew (some (ad.add (z * 2))) (y - z) ((c.drop z).take (y - z)) from (H.out.below (below_drew B1.out)).part z (y - z) (by omega))
  go_wp2_with fail
  refine Mix.wp_region_mix [0, 0, 0, 0, 0, 0, 0, 0, 0, 0, 1, 2, 0] (fun w' => ∃ x : Ext w1, w' = x.w) (by kernel_rfl) (by kernel_rfl) (InExt.drew _) ?_
  repeat (first | (refine Mix.wpMix_read (by rfl) ?_; go_big_quiet_step (fail); refine wpQuiet_nil ?_) | (refine Mix.wpMix_pure (by rfl) ?_; go_big_quiet_step (fail); refine wpQuiet_nil ?_))
  refine Mix.wpMix_chg (by rfl) (fun K hK => ?_)
  go_wp2_with fail
  refine (l12Open_c (some (ad.add ((k + 2) * 2))) (z - (k + 2)) (cp - (k + 2)) _ (some (ad.add (z * 2))) (y - z) (cp - z) _ M _ RB.out RA.out (by omega) (by omega) HVB.out HVA.out HOB.out HOA.out HM.out).mono ?_
  rintro e w2 ⟨A2, N2, c2, rfl, hw2, hc2, hb2⟩
  have hN2 := len2_of hw2
  have E2 := Lib.hid (below_of_drew hb2)
  have B2 := Lib.hid (below_chain B1.out hz1 (below_of_drew hb2))
  have R2 := Lib.hid (show Rd2 w2 A2 N2 M from hw2.rd)
  have O2 := Lib.hid (O1.out.keep (below_of_drew hb2))
  have hz2 := B2.out.size
  clear hw2 hb2
  go_wp2_with fail
  refine hK _ _ ⟨⟨_, E2.out⟩, rfl⟩ ?_
  clear hK K
  refine Mix.wpMix_tail (by rfl) (fun K hK => ?_)
  refine wp_appLam (by rfl) _ _ (by rfl) w.heap.size A1 k c1 _ (by rfl) (by exact O2.out) A2 N2 c2 M (by rfl) (by exact R2.out) (by omega) hz2 ?_
  intro A3 c3 w3 own3 hb3 hk3 hg3 hz3
  rw [← List.flatMap_append] at own3
  have O3 := Lib.hid own3; have B3 := Lib.hid (B2.out.trans hb3)
  clear own3 hb3 hk3 hg3 hz3
  go_wp2_with fail
  refine hK _ _ ?_
  clear hK K
  repeat (first | (refine Mix.wpMix_read (by rfl) ?_; go_big_quiet_step (fail); refine wpQuiet_nil ?_) | (refine Mix.wpMix_pure (by rfl) ?_; go_big_quiet_step (fail); refine wpQuiet_nil ?_))
  (refine Mix.wpMix_nil ?_; try simp only [Exit.then])
  have hz3 := B3.out.size
  by_cases hyp : y < cp
  · have RT := Lib.hid (show Rd2 w3 (some (ad.add (y * 2))) (n - y) (c.drop y) by
      have h1 := (H.out.below B3.out).part y (n - y) (by omega)
      rwa [List.take_of_length_le (by rw [List.length_drop, HL.out]; exact Nat.le_refl _)] at h1)
    go_wp2_with (first
      | (at_builtin; refine wp_appLam (by rfl) _ _ (by rfl) w.heap.size _ _ _ _ (by rfl) (by exact O3.out) _ _ _ (c.drop y) (by rfl) (by exact RT.out) (by omega) hz3 ?_; intro A4 c4 w4 own4 hb4 hk4 hg4 hz4; rw [← List.flatMap_append, List.append_assoc, HS.out] at own4; have O4 := Lib.hid own4; have B4 := Lib.hid (B3.out.trans hb4); have hm4 := len2_of own4.wrK; have hc4 := own4.cap; clear own4 hb4 hk4 hg4)
      | (go_at_call 79; refine (l12Is_c A4 _ c4 S q w4 O4.out.wrK.rd (by omega) HQ.out).mono ?_; rintro e w5 ⟨rfl, hb5⟩))
    go_ret2
    exact ⟨_, _, _, rfl, (O4.out.wrK.below hb5).wider (Nat.le_refl _) hb5.size, hm4, hc4, below_chain B4.out B4.out.size hb5⟩
  · obtain rfl : y = cp := by omega
    have RT := Lib.hid (show Rd2 w3 (some ad) 0 (c.drop y) by
      rw [List.drop_eq_nil_of_le (by rw [HL.out]; omega)]; exact Rd2.none0)
    go_wp2_with (first
      | (at_builtin; refine wp_appLam (by rfl) _ _ (by rfl) w.heap.size _ _ _ _ (by rfl) (by exact O3.out) _ _ _ (c.drop y) (by rfl) (by exact RT.out) (by omega) hz3 ?_; intro A4 c4 w4 own4 hb4 hk4 hg4 hz4; rw [← List.flatMap_append, List.append_assoc, HS.out] at own4; have O4 := Lib.hid own4; have B4 := Lib.hid (B3.out.trans hb4); have hm4 := len2_of own4.wrK; have hc4 := own4.cap; clear own4 hb4 hk4 hg4)
      | (go_at_call 79; refine (l12Is_c A4 _ c4 S q w4 O4.out.wrK.rd (by omega) HQ.out).mono ?_; rintro e w5 ⟨rfl, hb5⟩))
    go_ret2
    exact ⟨_, _, _, rfl, (O4.out.wrK.below hb5).wider (Nat.le_refl _) hb5.size, hm4, hc4, below_chain B4.out B4.out.size hb5⟩
set_option maxHeartbeats 4000000 in
set_option maxRecDepth 100000 in
theorem l12Run_c (A : Option Addr) (n cp : Nat) (c : List (Int × Int)) (b : Nat) (R : Option (List (Int × Int) × Nat × Bool)) (w : World) (h : Rd2 w A n c) (hv : validL c = true) (hb : b ≤ 100000) (hR : runL b c 0 = R) :
    Calls Tryz.prog 45 #[.slice A n cp, .int .i64 b] w (RunOut R w) := by
  obtain ⟨hv1, hv2, hv3⟩ := validL_end hv
  have hl := h.len
  obtain ⟨ad, rfl, hab, hcs⟩ := h.2 (by omega)
  have H := Lib.hid h; have HR := Lib.hid hR; have HV := Lib.hid hv; have HL := Lib.hid hl
  rw [hl] at hv2 hv3
  have HC := Lib.hid (show Rd2 (w.alloc (.cells #[] 62)) (some ad) n c from h.alloc _)
  clear h hR hv hcs hl hv1
  go_enter Tryz.func45, Tryz.ntmps45
  go_wp2_with (at_builtin; refine wp_appLam (by rfl) _ _ (by rfl) w.heap.size (some ⟨w.heap.size, 0, none⟩) 0 0 [] (by rfl) (by exact Own.litK (Nat.le_refl _)) (some ad) n cp c (by rfl) (by exact HC.out) (by omega) (by simp) ?_; intro A1 c1 w1 own1 hb1 hk1 hg1 hz1)
  rw [Nat.zero_add, List.nil_append] at own1
  have O1 := Lib.hid own1; have B1 := Lib.hid ((below_size.alloc (Nat.le_refl _) (.cells #[] 62)).trans hb1)
  clear own1 hb1 hk1 hg1 hz1
  go_wp2_with fail
  go_loopw [8, 9] (fun tv kv wr => ∃ (k : Nat) (A : Option Addr) (N cc : Nat) (t : List (Int × Int)), k ≤ b ∧ kv = .int .i64 k ∧ tv = .slice A N cc ∧ Hid (Wr wr w.heap.size wr.heap.size A (N * 2) (t.flatMap enc2)) ∧ Hid (t.length = N) ∧ N ≤ cc ∧ Hid (validL t = true) ∧ Hid (runL (b - k) t k = R) ∧ Below w.heap.size w wr) (fun _ kv _ => b - (intOf kv).toNat)
  case atStart => exact ⟨0, A1, n, c1, c, by omega, rfl, by go_num, O1.out.wrK, HL.out, O1.out.cap, HV.out, HR.out, B1.out⟩
  case round =>
    obtain ⟨k, A, N, cc, t, hk, rfl, rfl, hW, hN, hNc, hV, hr, hb⟩ := hrel
    have HB := Lib.hid hb
    have hwz := hb.size
    have hN4 : N ≤ 400 := by have := (validL_end hV.out).2.2; rw [hN.out] at this; exact this
    have RD := Lib.hid (show Rd2 wr A N t from hW.out.rd)
    have HE := Lib.hid (validL_end hV.out).1
    obtain ⟨F, hF⟩ : ∃ F, redL t N 0 = F := ⟨_, rfl⟩
    have HF := Lib.hid hF
    have HS := Lib.hid (show runKL (b - k) t k F = R by rw [← hr.out, runL_eq, hN.out, hF])
    clear hr hF hb
    cases F with
    | none =>
      have HG := Lib.hid (show some (t, k, true) = R from HS.out)
      go_wp2_with (go_at_call 80; refine (l12Redex_c _ _ _ t none _ RD.out (by omega) HF.out).mono ?_; rintro e w' ⟨rfl, rfl⟩)
      ((try simp only [Exit.inBlock, Exit.then]); refine bodyPost_ret (results_tmp4 rfl _ _ _) rfl ?_)
      rw [← HG.out]
      exact ⟨_, _, _, rfl, hW.out, hN.out, hNc, HB.out⟩
    | some j =>
      have hj := redL_some HF.out
      have hjn : j < N := by omega
      have HJ := Lib.hid hj.2.2
      have HG := Lib.hid (show (if b - k = 0 then some (t, k, false) else if validL (stepL t j) then runL (b - k - 1) (stepL t j) (k + 1) else none) = R from HS.out)
      have g0 : decide (((j : Nat) : Int) < 0) = false := decide_eq_false (by omega)
      clear hj HS
      by_cases hkb : k = b
      · subst hkb
        have HG' := Lib.hid (show some (t, k, false) = R by rw [← HG.out, if_pos (by omega)])
        go_wp2_with (go_at_call 80; refine (l12Redex_c _ _ _ t (some j) _ RD.out (by omega) HF.out).mono ?_; rintro e w' ⟨rfl, rfl⟩)
        ((try simp only [Exit.inBlock, Exit.then]); refine bodyPost_ret (results_tmp4 rfl _ _ _) rfl ?_)
        rw [← HG'.out]
        exact ⟨_, _, _, rfl, hW.out, hN.out, hNc, HB.out⟩
      have g1 : ((k : Int) == (b : Int)) = false := by simp; omega
      obtain ⟨S, hS⟩ : ∃ S, stepL t j = S := ⟨_, rfl⟩
      obtain ⟨q, hq⟩ : ∃ q, validL S = q := ⟨_, rfl⟩
      have HSS := Lib.hid hS; have HQ := Lib.hid hq
      have HG' := Lib.hid (show (if q = true then runL (b - (k + 1)) S (k + 1) else none) = R by rw [← HG.out, if_neg (show ¬ b - k = 0 by omega), hS, hq, show b - k - 1 = b - (k + 1) by omega])
      clear hS hq HG
      cases q
      · have HX := Lib.hid (show none = R from HG'.out)
        go_wp2_with (first | (go_at_call 80; refine (l12Redex_c _ _ _ t (some j) _ RD.out (by omega) HF.out).mono ?_; rintro e w' ⟨rfl, rfl⟩) | (go_at_call 81; refine (l12Step_c _ _ _ t j S false _ RD.out hNc hV.out hjn HJ.out HSS.out HQ.out).mono ?_; rintro e w2 ⟨A2, N2, cc2, rfl, hw2, hl2, hc2, hb2⟩))
        have B2 := Lib.hid (below_chain HB.out hwz hb2)
        clear hw2 hl2 hb2
        ((try simp only [Exit.inBlock, Exit.then]); refine bodyPost_ret (results_tmp4 rfl _ _ _) rfl ?_)
        rw [← HX.out]
        exact ⟨rfl, B2.out⟩
      · have HX := Lib.hid (show runL (b - (k + 1)) S (k + 1) = R from HG'.out)
        go_wp2_with (first | (go_at_call 80; refine (l12Redex_c _ _ _ t (some j) _ RD.out (by omega) HF.out).mono ?_; rintro e w' ⟨rfl, rfl⟩) | (go_at_call 81; refine (l12Step_c _ _ _ t j S true _ RD.out hNc hV.out hjn HJ.out HSS.out HQ.out).mono ?_; rintro e w2 ⟨A2, N2, cc2, rfl, hw2, hl2, hc2, hb2⟩))
        have W2 := Lib.hid (hw2.wider hwz (Nat.le_refl _)); have HL2 := Lib.hid hl2; have B2 := Lib.hid (below_chain HB.out hwz hb2)
        clear hw2 hl2 hb2
        go_roundw
        case rel => exact ⟨k + 1, A2, N2, cc2, S, by omega, by go_num, rfl, W2.out, HL2.out, hc2, HQ.out, HX.out, B2.out⟩
        case measure => simp [intOf]; omega
end Go.Proofs.YtebjpmmgdkepjaaGreatDoor
/-
  Contracts of chapter 12: lambda terms of the program: valid ones.
-/
namespace Go.Proofs.YtebjpmmgdkepjaaGreatDoor
open Go.RowKit

theorem lamFollow_c (a b : Int) (w : World) : Calls Tryz.prog 102 #[.agg #[.int .i64 a, .int .i64 b]] w fun e w' => e = .returned (.int .i64 (manyL a)) ∧ Below w.heap.size w w' := by
  by_cases h : a = 1
  · subst h
    go_enter Tryz.func102, Tryz.ntmps102
    go_wp2_with fail
    go_ret
    exact ⟨rfl, (by have hzz := ((below_size : Below w.heap.size w w)).size; repeat' (first | (with_reducible exact (below_size : Below w.heap.size w w)) | (with_reducible refine Below.alloc ?_ ?_ _) | (with_reducible refine Below.setCell ?_ ?_ _) | (with_reducible refine below_drew ?_) | omega | (simp; done) | (simp; omega)))⟩
  have g : (a == 1) = false := by simpa using h
  by_cases h2 : a = 2
  · subst h2
    go_enter Tryz.func102, Tryz.ntmps102
    go_wp2_with fail
    go_ret
    exact ⟨rfl, (by have hzz := ((below_size : Below w.heap.size w w)).size; repeat' (first | (with_reducible exact (below_size : Below w.heap.size w w)) | (with_reducible refine Below.alloc ?_ ?_ _) | (with_reducible refine Below.setCell ?_ ?_ _) | (with_reducible refine below_drew ?_) | omega | (simp; done) | (simp; omega)))⟩
  have g2 : (a == 2) = false := by simpa using h2
  have hm : manyL a = 0 := by rw [manyL, if_neg h, if_neg h2]
  rw [hm]
  clear hm h h2
  go_enter Tryz.func102, Tryz.ntmps102
  go_wp2_with fail
  go_ret
  exact ⟨rfl, (by have hzz := ((below_size : Below w.heap.size w w)).size; repeat' (first | (with_reducible exact (below_size : Below w.heap.size w w)) | (with_reducible refine Below.alloc ?_ ?_ _) | (with_reducible refine Below.setCell ?_ ?_ _) | (with_reducible refine below_drew ?_) | omega | (simp; done) | (simp; omega)))⟩
set_option maxHeartbeats 1000000 in
theorem termEndLam_c (A : Option Addr) (n cp : Nat) (c : List (Int × Int)) (k : Nat) (z : Int) (w : World) (h : Rd2 w A n c) (hn : n ≤ 1000000000) (hkn : k ≤ n) (hz : resE manyL c k 1 = z) :
    Calls Tryz.prog 101 #[.slice A n cp, .int .i64 k, .func (.func 102) #[] #[]] w fun e w' => e = .returned (.int .i64 z) ∧ Below w.heap.size w w' := by
  have HL := Lib.hid h.len
  have HZ := Lib.hid hz
  have H := Lib.hid h; clear h hz
  go_enter Tryz.func101, Tryz.ntmps101
  go_wp2_with fail
  go_loopw [1, 7] (fun kv ov wr => ∃ j o : Nat, j ≤ n ∧ o ≤ j + 1 ∧ kv = .int .i64 j ∧ ov = .int .i64 o ∧ Hid (resE manyL c j o = z) ∧ Below w.heap.size w wr) (fun kv _ _ => n - (intOf kv).toNat)
  case atStart => exact ⟨k, 1, hkn, by omega, rfl, rfl, HZ.out, below_size⟩
  case round =>
    obtain ⟨j, o, hj, ho, rfl, rfl, hr, hb⟩ := hrel
    have HB := Lib.hid hb
    by_cases ho0 : o = 0
    · subst ho0
      have HR := Lib.hid (show (j : Int) = z by rw [← hr.out, resE_zero])
      clear hr hb
      go_wp2_with fail
      go_ret
      exact ⟨by rw [← HR.out]; rfl, HB.out⟩
    have g0 : decide ((0 : Int) < (o : Int)) = true := by rw [decide_eq_true_eq]; omega
    by_cases hlt : j < n
    · obtain ⟨ad, x, rfl, hab, hx, hc0, hc1⟩ := (H.out.below hb).at_ hlt
      have HR := Lib.hid (show resE manyL c (j + 1) (o - 1 + manyL x.1) = z by rw [← hr.out, show o = o - 1 + 1 by omega, resE_step hx, Nat.add_sub_cancel])
      obtain ⟨t, v⟩ := x
      simp only at hc0 hc1 HR
      clear hr hx hb
      have hm : manyL t ≤ 2 := manyL_le t
      obtain ⟨f, hf⟩ : ∃ f, manyL t = f := ⟨_, rfl⟩
      have HC := Lib.hid (show ∀ w, Calls Tryz.prog 102 #[.agg #[.int .i64 t, .int .i64 v]] w fun e w' => e = .returned (.int .i64 f) ∧ Below w.heap.size w w' from fun w => by rw [← hf]; exact lamFollow_c t v w)
      rw [hf] at HR hm
      have v1 : IntKind.i64.wrap ((f : Int) - 1) = (f : Int) - 1 := IntWalk.i64_in _ (by omega)
      have v2 : IntKind.i64.wrap ((o : Int) + ((f : Int) - 1)) = ((o - 1 + f : Nat) : Int) := by rw [IntWalk.i64_in _ (by omega)]; omega
      clear hf
      go_wp2_with (go_at_call 102; refine (HC.out _).mono ?_; rintro e w2 ⟨rfl, hb2⟩)
      go_roundw
      case rel => exact ⟨j + 1, o - 1 + f, by omega, by omega, by go_num, by go_num, HR.out, below_chain HB.out HB.out.size hb2⟩
      case measure => simp [intOf]; omega
    · have HR := Lib.hid (show (-1 : Int) = z by rw [← hr.out, show o = o - 1 + 1 by omega, resE_past (by rw [HL.out]; omega)])
      clear hr hb
      go_wp2_with fail
      go_ret
      exact ⟨by rw [← HR.out]; rfl, HB.out⟩
theorem lamEnd_c (A : Option Addr) (n cp : Nat) (c : List (Int × Int)) (k : Nat) (z : Int) (w : World) (h : Rd2 w A n c) (hn : n ≤ 1000000000) (hkn : k ≤ n) (hz : resE manyL c k 1 = z) :
    Calls Tryz.prog 59 #[.slice A n cp, .int .i64 k] w fun e w' => e = .returned (.int .i64 z) ∧ Below w.heap.size w w' := by
  go_enter Tryz.func59, Tryz.ntmps59
  go_wp2_with (go_at_call 101; refine (termEndLam_c _ _ _ c k z _ h hn hkn hz).mono ?_; rintro e w2 ⟨rfl, hb2⟩)
  go_ret
  exact ⟨rfl, hb2⟩
theorem sizeLam_c (A : Option Addr) (n c : Nat) (w : World) (_hn : n ≤ 1000000000000) :
    Calls Tryz.prog 34 #[.slice A n c] w fun e w' => e = .returned (.int .i64 n) ∧ w = w' := by
  go_enter Tryz.func34, Tryz.ntmps34
  go_wp2
  go_ret
  exact ⟨rfl, rfl⟩
set_option maxRecDepth 100000 in
theorem validLamElement_c (x : Int × Int) (q : Bool) (w : World) (hq : okL x = q) : Calls Tryz.prog 58 #[.agg #[.int .i64 x.1, .int .i64 x.2]] w fun e w' => e = .returned (.bool q) ∧ Below w.heap.size w w' := by
  obtain ⟨t, v⟩ := x
  have HQ := Lib.hid hq
  clear hq
  by_cases h0 : t = 0
  · subst h0
    have HG := Lib.hid (show inB v 0 399 = q by rw [← HQ.out]; simp [okL, show inB 0 0 2 = true from rfl])
    go_enter Tryz.func58, Tryz.ntmps58
    go_wp2_with (go_at_call 24; refine (within_b _ _ _ _ HG.out _).mono ?_; rintro e w' ⟨rfl, rfl⟩)
    go_ret
    exact ⟨rfl, (by have hzz := ((below_size : Below w.heap.size w w)).size; repeat' (first | (with_reducible exact (below_size : Below w.heap.size w w)) | (with_reducible refine Below.alloc ?_ ?_ _) | (with_reducible refine Below.setCell ?_ ?_ _) | (with_reducible refine below_drew ?_) | omega | (simp; done) | (simp; omega)))⟩
  have g0 : (t == 0) = false := by simpa using h0
  by_cases h1 : t = 1
  · subst h1
    have HG := Lib.hid (show (v == 0) = q by rw [← HQ.out]; by_cases hv : v = 0 <;> simp [okL, hv, show inB 1 0 2 = true from rfl])
    have hp : (v == 0) = q := HG.out
    go_enter Tryz.func58, Tryz.ntmps58
    go_wp2_with fail
    go_ret
    exact ⟨rfl, (by have hzz := ((below_size : Below w.heap.size w w)).size; repeat' (first | (with_reducible exact (below_size : Below w.heap.size w w)) | (with_reducible refine Below.alloc ?_ ?_ _) | (with_reducible refine Below.setCell ?_ ?_ _) | (with_reducible refine below_drew ?_) | omega | (simp; done) | (simp; omega)))⟩
  have g1 : (t == 1) = false := by simpa using h1
  by_cases h2 : t = 2
  · subst h2
    have HG := Lib.hid (show (v == 0) = q by rw [← HQ.out]; by_cases hv : v = 0 <;> simp [okL, hv, show inB 2 0 2 = true from rfl])
    have hp : (v == 0) = q := HG.out
    go_enter Tryz.func58, Tryz.ntmps58
    go_wp2_with fail
    go_ret
    exact ⟨rfl, (by have hzz := ((below_size : Below w.heap.size w w)).size; repeat' (first | (with_reducible exact (below_size : Below w.heap.size w w)) | (with_reducible refine Below.alloc ?_ ?_ _) | (with_reducible refine Below.setCell ?_ ?_ _) | (with_reducible refine below_drew ?_) | omega | (simp; done) | (simp; omega)))⟩
  have g2 : (t == 2) = false := by simpa using h2
  have HG := Lib.hid (show false = q by
    rw [← HQ.out, okL, show inB t 0 2 = false from ?_]; rfl
    cases hb : inB t 0 2 with
    | false => rfl
    | true => have := inB_t hb; omega)
  rw [← HG.out]
  clear h0 h1 h2
  go_enter Tryz.func58, Tryz.ntmps58
  go_wp2_with fail
  go_ret
  exact ⟨rfl, (by have hzz := ((below_size : Below w.heap.size w w)).size; repeat' (first | (with_reducible exact (below_size : Below w.heap.size w w)) | (with_reducible refine Below.alloc ?_ ?_ _) | (with_reducible refine Below.setCell ?_ ?_ _) | (with_reducible refine below_drew ?_) | omega | (simp; done) | (simp; omega)))⟩
set_option maxRecDepth 100000 in
theorem validLam1_c (x : Int × Int) (q : Bool) (w : World) (hq : okL x = q) : Calls Tryz.prog 57 #[.agg #[.int .i64 x.1, .int .i64 x.2]] w fun e w' => e = .returned (.bool (!q)) ∧ Below w.heap.size w w' := by
  have HQ := Lib.hid hq
  clear hq
  go_enter Tryz.func57, Tryz.ntmps57
  go_wp2_with (go_at_call 58; refine (validLamElement_c x q _ HQ.out).mono ?_; rintro e w2 ⟨rfl, hb2⟩)
  go_ret
  exact ⟨rfl, below_chain (below_size.alloc (Nat.le_refl _) _) (by simp) hb2⟩
set_option maxHeartbeats 2000000 in
set_option maxRecDepth 100000 in
theorem indexLam_c (A : Option Addr) (n cp : Nat) (xs : List (Int × Int)) (w : World) (h : Rd2 w A n xs) (hn : n ≤ 1000000000) :
    Calls Tryz.prog 100 #[.slice A n cp, .func (.func 57) #[] #[]] w fun e w' => e = .returned (.int .i64 (firstNot okL 0 xs)) ∧ Below w.heap.size w w' := by
  have HL := Lib.hid h.len
  have H := Lib.hid h; clear h
  go_enter Tryz.func100, Tryz.ntmps100
  go_wp2_with fail
  go_loopw [8] (fun iv wr => ∃ k : Nat, k ≤ n ∧ iv = .int .i64 k ∧ Hid (firstNot okL 0 xs = firstNot okL k (xs.drop k)) ∧ Below w.heap.size w wr) (fun iv _ => n - (intOf iv).toNat)
  case atStart => exact ⟨0, by omega, rfl, rfl, below_size⟩
  case round =>
    obtain ⟨k, hk, rfl, hr, hb⟩ := hrel
    have HB := Lib.hid hb
    by_cases hlt : k < n
    · obtain ⟨ad, x, rfl, hab, hx, hc0, hc1⟩ := (H.out.below hb).at_ hlt
      have HS := Lib.hid (show firstNot okL 0 xs = if okL x then firstNot okL (k + 1) (xs.drop (k + 1)) else k by rw [hr.out, drop_at hx, firstNot])
      clear hx hb hr
      cases ho : okL x
      · have HS2 := Lib.hid (show firstNot okL 0 xs = k by rw [HS.out, ho]; rfl)
        have HO := Lib.hid ho
        clear HS ho
        go_wp2_with fail
        refine (validLam1_c x false _ HO.out).mono ?_
        rintro e w1 ⟨rfl, hb1⟩
        have T := Lib.hid (below_chain HB.out HB.out.size hb1); clear hb1
        go_wp2_with fail
        go_ret
        exact ⟨by rw [HS2.out]; rfl, T.out⟩
      · have HS2 := Lib.hid (show firstNot okL 0 xs = firstNot okL (k + 1) (xs.drop (k + 1)) by rw [HS.out, ho]; rfl)
        have HO := Lib.hid ho
        clear HS ho
        go_wp2_with fail
        refine (validLam1_c x true _ HO.out).mono ?_
        rintro e w1 ⟨rfl, hb1⟩
        have T := Lib.hid (below_chain HB.out HB.out.size hb1); clear hb1
        go_wp2_with fail
        go_roundw
        case rel => exact ⟨k + 1, by omega, by go_num, HS2.out, T.out⟩
        case measure => simp [intOf]; omega
    · have HS := Lib.hid (show firstNot okL 0 xs = -1 by rw [hr.out, List.drop_eq_nil_of_le (by rw [HL.out]; omega)]; rfl)
      clear hb hr
      go_wp2_with fail
      go_ret
      exact ⟨by rw [HS.out]; rfl, HB.out⟩
theorem containsLam_c (A : Option Addr) (n cp : Nat) (xs : List (Int × Int)) (q : Bool) (w : World) (h : Rd2 w A n xs) (hn : n ≤ 1000000000) (hq : xs.all okL = q) :
    Calls Tryz.prog 56 #[.slice A n cp, .func (.func 57) #[] #[]] w fun e w' => e = .returned (.bool (!q)) ∧ Below w.heap.size w w' := by
  have HR := Lib.hid (firstNot_all okL xs 0)
  have HQ := Lib.hid hq
  clear hq
  go_enter Tryz.func56, Tryz.ntmps56
  go_wp2_with fail
  refine (indexLam_c A n cp xs _ h hn).mono ?_
  rintro e w1 ⟨rfl, hb⟩
  have T := Lib.hid hb; clear hb
  rw [HQ.out] at HR
  generalize firstNot okL 0 xs = E at *
  go_wp2_with fail
  go_ret
  exact ⟨by rw [← HR.out]; rfl, T.out⟩
set_option maxHeartbeats 2000000 in
set_option maxRecDepth 100000 in
theorem validLam_c (A : Option Addr) (n cp : Nat) (c : List (Int × Int)) (q : Bool) (w : World) (h : Rd2 w A n c) (hn : n ≤ 1000000000) (hq : validL c = q) :
    Calls Tryz.prog 27 #[.slice A n cp] w fun e w' => e = .returned (.bool q) ∧ Below w.heap.size w w' := by
  have HL := Lib.hid h.len
  have HQ := Lib.hid (show (inB n 1 400 && c.all okL && decide (endP manyL c 1 = some c.length)) = q by rw [← hq, validL, h.len])
  have H := Lib.hid h; clear h hq
  cases hb1 : inB n 1 400
  · have HF := Lib.hid (show false = q by rw [← HQ.out, hb1]; rfl)
    go_enter Tryz.func27, Tryz.ntmps27
    go_wp2_with (first | (go_at_call 34; refine (sizeLam_c _ _ _ _ (by omega)).mono ?_; rintro e w' ⟨rfl, rfl⟩) | (go_at_call 24; refine (within_b _ _ _ _ (by assumption) _).mono ?_; rintro e w' ⟨rfl, rfl⟩))
    go_ret
    exact ⟨by rw [← HF.out]; rfl, below_size⟩
  have HF := Lib.hid (show (c.all okL && decide (endP manyL c 1 = some c.length)) = q by rw [← HQ.out, hb1]; rfl)
  have hn1 := inB_t hb1
  clear HQ
  cases ha : c.all okL
  · have HG := Lib.hid (show false = q by rw [← HF.out, ha]; rfl)
    have HA := Lib.hid ha
    clear ha
    go_enter Tryz.func27, Tryz.ntmps27
    go_wp2_with (first | (go_at_call 34; refine (sizeLam_c _ _ _ _ (by omega)).mono ?_; rintro e w' ⟨rfl, rfl⟩) | (go_at_call 24; refine (within_b _ _ _ _ (by assumption) _).mono ?_; rintro e w' ⟨rfl, rfl⟩) | (go_at_call 56; refine (containsLam_c A n cp c false _ H.out hn HA.out).mono ?_; rintro e w2 ⟨rfl, hb2⟩))
    go_ret
    exact ⟨by rw [← HG.out]; rfl, hb2⟩
  have HG := Lib.hid (show decide (endP manyL c 1 = some c.length) = q by rw [← HF.out, ha]; rfl)
  have HA := Lib.hid ha
  clear ha HF
  obtain ⟨z, hz⟩ : ∃ z, resE manyL c 0 1 = z := ⟨_, rfl⟩
  have HZ := Lib.hid hz
  have HD := Lib.hid (show (z == (n : Int)) = q by
    rw [← HG.out, ← hz, resE, List.drop_zero, HL.out]
    cases endP manyL c 1 with
    | none =>
      show ((-1 : Int) == (n : Int)) = decide (none = some n)
      rw [show ((-1 : Int) == (n : Int)) = false by simp]; rfl
    | some p =>
      show (((0 + p : Nat) : Int) == (n : Int)) = decide (some p = some n)
      rw [Nat.zero_add]
      by_cases h : p = n
      · subst h; simp
      · rw [show ((p : Int) == (n : Int)) = false by simp; omega]; simp [h])
  clear hz
  go_enter Tryz.func27, Tryz.ntmps27
  go_wp2_with (first | (go_at_call 34; refine (sizeLam_c _ _ _ _ (by omega)).mono ?_; rintro e w' ⟨rfl, rfl⟩) | (go_at_call 24; refine (within_b _ _ _ _ (by assumption) _).mono ?_; rintro e w' ⟨rfl, rfl⟩) | (go_at_call 56; refine (containsLam_c A n cp c true _ H.out hn HA.out).mono ?_; rintro e w2 ⟨rfl, hb2⟩; have R2 := Lib.hid (H.out.below hb2)) | (go_at_call 59; refine (lamEnd_c _ _ _ c 0 z _ R2.out hn (by omega) HZ.out).mono ?_; rintro e w3 ⟨rfl, hb3⟩))
  go_ret
  exact ⟨by rw [← HD.out]; rfl, below_chain hb2 hb2.size hb3⟩
end Go.Proofs.YtebjpmmgdkepjaaGreatDoor
