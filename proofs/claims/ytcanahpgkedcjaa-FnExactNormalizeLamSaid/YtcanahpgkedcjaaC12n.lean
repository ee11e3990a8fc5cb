/-
  Contracts of chapter 12: lambda terms of the reference: substituting.
-/
import Derived.Test.YtcanahpgkedcjaaC12m
namespace Go.Proofs.Ytcanahpgkedcjaa
open Go.RowKit

def opG (a : List (Int × Int)) (y : (Int × Int) × Nat) : List (Int × Int) := if y.1.1 = 0 then opF a y.1 y.2 else [y.1]
theorem openL_flat (a b : List (Int × Int)) : openL a b = (b.zip (depL b [0])).flatMap (opG a) := mapL_flat _ _ _
theorem opG_len (a : List (Int × Int)) (y : (Int × Int) × Nat) : (opG a y).length ≤ a.length + 1 := by
  unfold opG
  split
  · exact opF_len a y.1 y.2
  · simp
theorem Rd.atBlk {w w' : World} {A : Option Addr} {n : Nat} {vs : List Value} (h : Rd w A n vs) (hk : ∀ a, A = some a → 0 < n → w'.heap[a.block]? = w.heap[a.block]?) (hs : w.heap.size ≤ w'.heap.size) : Rd w' A n vs :=
  ⟨h.1, fun hn => by
    obtain ⟨ad, e, hlt, hc⟩ := h.2 hn
    exact ⟨ad, e, Nat.lt_of_lt_of_le hlt hs, fun j u hu => (World.cell?_of_block (a := ad.add j) (by rw [block_add]; exact hk ad e hn)).trans (hc j u hu)⟩⟩
set_option maxHeartbeats 4000000 in
set_option maxRecDepth 100000 in
theorem l12Open_c (A : Option Addr) (n cp : Nat) (b : List (Int × Int)) (A2 : Option Addr) (m cp2 : Nat) (a S : List (Int × Int)) (w : World) (h : Rd2 w A n b) (ha : Rd2 w A2 m a) (hn : n ≤ 400) (hm : m ≤ 400) (hv : endP manyL b 1 = some b.length) (hva : endP manyL a 1 = some a.length) (hok : ∀ x ∈ b, okL x = true) (hoka : ∀ x ∈ a, okL x = true) (hS : openL a b = S) :
    Calls Try.prog 98 #[.slice A n cp, .slice A2 m cp2] w fun e w' => ∃ A' N c', e = .returned (.slice A' N c') ∧ Wr w' w.heap.size w'.heap.size A' (N * 2) (S.flatMap enc2) ∧ N ≤ c' ∧ Below w.heap.size w w' := by
  have hl := h.len
  have hdl : (depL b [0]).length = n := by rw [← hl]; exact depL_len hv
  obtain ⟨D, hD⟩ : ∃ D, depL b [0] = D := ⟨_, rfl⟩
  rw [hD] at hdl
  have hDb : ∀ d ∈ D, d ≤ n := fun d hd => by rw [← hD] at hd; have := depL_le (M := 0) (st := [0]) (l := b) (by simp) d hd; omega
  have HSZ := Lib.hid (show (b.zip D).flatMap (opG a) = S by rw [← hS, openL_flat, hD])
  have HL := Lib.hid hl; have HDL := Lib.hid hdl; have HDB := Lib.hid hDb; have HV := Lib.hid hv; have HVA := Lib.hid hva; have HD := Lib.hid hD; have HOK := Lib.hid hok; have HOKA := Lib.hid hoka
  have H := Lib.hid h; have HA := Lib.hid ha
  have hma := ha.len
  have hn1 : 1 ≤ n := by rw [← hl]; rcases Nat.eq_zero_or_pos b.length with h0 | h0; (· rw [List.length_eq_zero_iff.1 h0] at hv; cases hv); (· exact h0)
  have HMA := Lib.hid hma
  have B0 := Lib.hid (show Below w.heap.size w (w.alloc (.cells #[] 62)) from below_size.alloc (Nat.le_refl _) _)
  have O0 := Lib.hid (show Own (w.alloc (.cells #[] 62)) w.heap.size 62 2 (some ⟨w.heap.size, 0, none⟩) 0 0 [] from Own.litK (Nat.le_refl _))
  clear h ha hv hva hok hoka hS hl hdl hDb hD hma
  go_enter Try.func98, Try.ntmps98
  go_wp2_with fail
  refine (l12Depths_c A n cp b _ (H.out.alloc _) (by omega) HV.out).mono ?_
  rw [HD.out]
  rintro e w2 ⟨AD, c2, rfl, hw2, hb2⟩
  have B2 := Lib.hid (below_chain B0.out B0.out.size hb2)
  have O2 := Lib.hid (O0.out.keep hb2)
  obtain ⟨ag, rfl, hag1, hag2, _⟩ := hw2.2 (by omega)
  have D2 := Lib.hid (show RdI w2 (some ag) n (dpI D) from hw2.rdI)
  have hne0 : w.heap.size ≠ ag.block := by simp at hag1; omega
  have hz2 := B2.out.size
  clear hw2 hb2 O0
  go_wp2_with fail
  go_loopw [5, 7] (fun ov iv wr => ∃ (k mm cc : Nat) (ao : Addr) (b0 : List (Int × Int)), k ≤ n ∧ mm ≤ 401 * k ∧ iv = .int .i64 k ∧ ov = .slice (some ao) mm cc ∧ ao.block ≠ ag.block ∧ Hid (Own wr w.heap.size 62 2 (some ao) mm cc (b0.flatMap enc2)) ∧ Hid (b0 ++ ((b.zip D).drop k).flatMap (opG a) = S) ∧ Hid (RdI wr (some ag) n (dpI D)) ∧ Below w.heap.size w wr) (fun _ iv _ => n - (intOf iv).toNat)
  case atStart => exact ⟨0, 0, 0, ⟨w.heap.size, 0, none⟩, [], by omega, by omega, rfl, rfl, hne0, O2.out, HSZ.out, D2.out, B2.out⟩
  case round =>
    clear O2 D2
    obtain ⟨k, mm, cc, ao, b0, hk, hmm, rfl, rfl, hne, hO, hr, hDd, hb⟩ := hrel
    have HB := Lib.hid hb
    have hzr := hb.size
    by_cases hlt : k < n
    · obtain ⟨ad, x, rfl, hab, hx, hc0, hc1⟩ := (H.out.below hb).at_ hlt
      obtain ⟨d, hd⟩ : ∃ d, D[k]? = some d := ⟨_, List.getElem?_eq_getElem (by rw [HDL.out]; exact hlt)⟩
      have hdn := HDB.out d (List.mem_of_getElem? hd)
      have hox := okL_cases (HOK.out x (List.mem_of_getElem? hx))
      obtain ⟨_, g, e, hag, hg, hcg⟩ := RdI.at_ hDd.out (k := k) hlt
      injection e with e; subst e
      have hgd : g = (d : Int) := by
        rw [dpI, List.getElem?_map, hd] at hg
        injection hg with hg; exact hg.symm
      subst hgd
      have hzk : (b.zip D)[k]? = some (x, d) := by rw [List.getElem?_zip_eq_some]; exact ⟨hx, hd⟩
      have HR := Lib.hid (show b0 ++ (opG a (x, d) ++ ((b.zip D).drop (k + 1)).flatMap (opG a)) = S by rw [← hr.out, drop_at hzk, List.flatMap_cons])
      obtain ⟨t, v⟩ := x
      simp only at hc0 hc1 hox
      obtain ⟨w6, hw6⟩ : ∃ w6, wr.alloc (.cells #[.int .i64 t, .int .i64 v] 62) = w6 := ⟨_, rfl⟩
      have E6 := Lib.hid (show Below wr.heap.size wr w6 by rw [← hw6]; exact below_size.alloc (Nat.le_refl _) _)
      have K6 := Lib.hid (show Blk w6 wr.heap.size 62 #[.int .i64 t, .int .i64 v] by rw [← hw6]; exact Blk.new _ _ _)
      have y0 : w6.cell? ⟨wr.heap.size, 0, none⟩ = some (.int .i64 t) := K6.out.cell 0
      have y1 : w6.cell? ⟨wr.heap.size, 1, none⟩ = some (.int .i64 v) := K6.out.cell 1
      have yd := keepc E6.out hcg
      clear hb hx hr hd hzk hg
      by_cases h0 : t = 0
      · subst h0
        by_cases hvd : v = (d : Int)
        · subst hvd
          obtain ⟨SA, hSA⟩ : ∃ SA, shiftL d a = SA := ⟨_, rfl⟩
          have HSA := Lib.hid hSA
          have hsl : SA.length ≤ m := by rw [← hSA, ← HMA.out]; exact shiftL_len d a
          have HG := Lib.hid (show (b0 ++ SA) ++ ((b.zip D).drop (k + 1)).flatMap (opG a) = S by rw [← HR.out, opG, if_pos rfl, opF, if_pos rfl, hSA, List.append_assoc])
          clear hSA HR
          go_wp2_with fail
          go_quiet (fail)
          obtain ⟨w7, hw7⟩ : ∃ w7, w6.drewN nq = w7 := ⟨_, rfl⟩
          rw [hw7]
          have E7 := Lib.hid (show Below wr.heap.size wr w7 by rw [← hw7]; exact below_drewN E6.out _)
          have K7 := Lib.hid (show Blk w7 wr.heap.size 62 #[.int .i64 0, .int .i64 (d : Int)] by rw [← hw7]; exact K6.out)
          have p7 : w7.cell? ⟨wr.heap.size, 0, none⟩ = some (.int .i64 0) := K7.out.cell 0
          have q7 : w7.cell? ⟨wr.heap.size, 1, none⟩ = some (.int .i64 (d : Int)) := K7.out.cell 1
          have f7 := K7.out.frozen 1
          have d7 := keepc E7.out hcg
          have hz7 := E7.out.size
          clear hw7
          go_wp2_with (first
            | (go_at_call 128; refine (l12Shift_c A2 m cp2 a d SA w7 (HA.out.below (below_chain HB.out hzr E7.out)) (by omega) HVA.out HOKA.out (by omega) HSA.out).mono ?_; rintro e w8 ⟨A8, c8, rfl, hw8, hc8, hb8⟩; have hm8 := len2_of hw8; have R8 := Lib.hid (show Rd2 w8 A8 m SA from hw8.rd); have E8 := Lib.hid (below_chain E7.out hz7 hb8))
            | (at_builtin; refine wp_appLam (by rfl) _ _ (by rfl) w.heap.size _ _ _ _ (by rfl) (by exact hO.out.keep E8.out) _ _ _ SA (by rfl) (by exact R8.out) (by omega) (by have := E8.out.size; omega) ?_; intro A9 c9 w9 own9 hb9 hk9 hg9 hz9))
          rw [← List.flatMap_append] at own9
          have O9 := Lib.hid own9; have B9 := Lib.hid ((below_chain HB.out hzr (E8.out)).trans hb9)
          have hzy := (Below.size (E8.out))
          have DD := Lib.hid (show RdI w9 (some ag) n (dpI D) from Rd.atBlk (RdI.below hDd.out (E8.out)) (fun a ha _ => by injection ha with ha; subst ha; exact hk9 _ (by omega) (fun ad' h => by injection h with h; subst h; exact hne)) hz9)
          obtain ⟨aj, hAj, nej⟩ : ∃ a', A9 = some a' ∧ a'.block ≠ ag.block := by
            rcases hg9 with h | h
            · exact ⟨ao, h, hne⟩
            · exact ⟨_, h, Nat.ne_of_gt (Nat.lt_of_lt_of_le hag hzy)⟩
          subst hAj
          clear own9 hb9 hk9 hg9 hz9
          go_roundw
          case rel => exact ⟨k + 1, mm + m, c9, aj, b0 ++ SA, by omega, by omega, by go_num, rfl, nej, O9.out, HG.out, DD.out, B9.out⟩
          case measure => simp [intOf]; omega
        · have g1 : (v == (d : Int)) = false := by simpa using hvd
          by_cases hgt : (d : Int) < v
          · have g2 : decide ((d : Int) < v) = true := by rw [decide_eq_true_eq]; exact hgt
            have v1 : IntKind.i64.wrap (v - 1) = v - 1 := IntWalk.i64_in _ (by omega)
            have HG := Lib.hid (show (b0 ++ [((0 : Int), v - 1)]) ++ ((b.zip D).drop (k + 1)).flatMap (opG a) = S by rw [← HR.out, opG, if_pos rfl, opF, if_neg hvd, if_pos hgt, List.append_assoc])
            clear HR
            go_wp2_with fail
            go_quiet (fail)
            obtain ⟨w7, hw7⟩ : ∃ w7, w6.drewN nq = w7 := ⟨_, rfl⟩
            rw [hw7]
            have E7 := Lib.hid (show Below wr.heap.size wr w7 by rw [← hw7]; exact below_drewN E6.out _)
            have K7 := Lib.hid (show Blk w7 wr.heap.size 62 #[.int .i64 0, .int .i64 v] by rw [← hw7]; exact K6.out)
            have p7 : w7.cell? ⟨wr.heap.size, 0, none⟩ = some (.int .i64 0) := K7.out.cell 0
            have q7 : w7.cell? ⟨wr.heap.size, 1, none⟩ = some (.int .i64 v) := K7.out.cell 1
            have f7 := K7.out.frozen 1
            have d7 := keepc E7.out hcg
            have hz7 := E7.out.size
            clear hw7
            go_wp2_with fail
            go_quiet (fail)
            obtain ⟨w8, hw8⟩ : ∃ w8, w7.drewN nq = w8 := ⟨_, rfl⟩
            rw [hw8]
            have E8 := Lib.hid (show Below wr.heap.size wr w8 by rw [← hw8]; exact below_drewN E7.out _)
            have K8 := Lib.hid (show Blk w8 wr.heap.size 62 #[.int .i64 0, .int .i64 v] by rw [← hw8]; exact K7.out)
            have p8 : w8.cell? ⟨wr.heap.size, 0, none⟩ = some (.int .i64 0) := K8.out.cell 0
            have q8 : w8.cell? ⟨wr.heap.size, 1, none⟩ = some (.int .i64 v) := K8.out.cell 1
            have f8 := K8.out.frozen 1
            have d8 := keepc E8.out hcg
            have hz8 := E8.out.size
            clear hw8
            obtain ⟨w9, hw9⟩ : ∃ w9, w8.setCell ⟨wr.heap.size, 1, none⟩ (.int .i64 (v - 1)) = w9 := ⟨_, rfl⟩
            have K9 := Lib.hid (show Blk w9 wr.heap.size 62 #[.int .i64 0, .int .i64 (v - 1)] by rw [← hw9]; exact K8.out.set_ 1 _)
            have E9 := Lib.hid (show Below wr.heap.size wr w9 by rw [← hw9]; exact E8.out.setCell (Nat.le_refl _) _)
            have p9 : w9.cell? ⟨wr.heap.size, 0, none⟩ = some (.int .i64 0) := K9.out.cell 0
            have q9 : w9.cell? ⟨wr.heap.size, 1, none⟩ = some (.int .i64 (v - 1)) := K9.out.cell 1
            have hz9 := E9.out.size
            go_wp2_with (at_builtin; refine wp_appLam (by rfl) _ _ (by rfl) w.heap.size _ _ _ _ (by rfl) (by exact hO.out.keep (E9.out.alloc hz9 _)) _ _ _ ([((0 : Int), v - 1)]) (by rfl) (by exact rd_new2 ([((0 : Int), v - 1)]) _ rfl rfl) (by omega) (by first | omega | (simp; omega) | (simp; done)) ?_; intro A10 c10 w10 own10 hb10 hk10 hg10 hz10)
            rw [← List.flatMap_append] at own10
            have O10 := Lib.hid own10; have B10 := Lib.hid ((below_chain HB.out hzr (E9.out.alloc hz9 (.cells #[.int .i64 0, .int .i64 (v - 1)] 62))).trans hb10)
            have hzy := (Below.size (E9.out.alloc hz9 (.cells #[.int .i64 0, .int .i64 (v - 1)] 62)))
            have DD := Lib.hid (show RdI w10 (some ag) n (dpI D) from Rd.atBlk (RdI.below hDd.out (E9.out.alloc hz9 (.cells #[.int .i64 0, .int .i64 (v - 1)] 62))) (fun a ha _ => by injection ha with ha; subst ha; exact hk10 _ (by omega) (fun ad' h => by injection h with h; subst h; exact hne)) hz10)
            obtain ⟨aj, hAj, nej⟩ : ∃ a', A10 = some a' ∧ a'.block ≠ ag.block := by
              rcases hg10 with h | h
              · exact ⟨ao, h, hne⟩
              · exact ⟨_, h, Nat.ne_of_gt (Nat.lt_of_lt_of_le hag hzy)⟩
            subst hAj
            clear own10 hb10 hk10 hg10 hz10
            go_roundw
            case rel => exact ⟨k + 1, mm + 1, c10, aj, b0 ++ [((0 : Int), v - 1)], by omega, by omega, by go_num, rfl, nej, O10.out, HG.out, DD.out, B10.out⟩
            case measure => simp [intOf]; omega
          · have g2 : decide ((d : Int) < v) = false := by rw [decide_eq_false_iff_not]; exact hgt
            have HG := Lib.hid (show (b0 ++ [((0 : Int), v)]) ++ ((b.zip D).drop (k + 1)).flatMap (opG a) = S by rw [← HR.out, opG, if_pos rfl, opF, if_neg hvd, if_neg hgt, List.append_assoc])
            clear HR
            go_wp2_with fail
            go_quiet (fail)
            obtain ⟨w7, hw7⟩ : ∃ w7, w6.drewN nq = w7 := ⟨_, rfl⟩
            rw [hw7]
            have E7 := Lib.hid (show Below wr.heap.size wr w7 by rw [← hw7]; exact below_drewN E6.out _)
            have K7 := Lib.hid (show Blk w7 wr.heap.size 62 #[.int .i64 0, .int .i64 v] by rw [← hw7]; exact K6.out)
            have p7 : w7.cell? ⟨wr.heap.size, 0, none⟩ = some (.int .i64 0) := K7.out.cell 0
            have q7 : w7.cell? ⟨wr.heap.size, 1, none⟩ = some (.int .i64 v) := K7.out.cell 1
            have f7 := K7.out.frozen 1
            have d7 := keepc E7.out hcg
            have hz7 := E7.out.size
            clear hw7
            go_wp2_with fail
            go_quiet (fail)
            obtain ⟨w8, hw8⟩ : ∃ w8, w7.drewN nq = w8 := ⟨_, rfl⟩
            rw [hw8]
            have E8 := Lib.hid (show Below wr.heap.size wr w8 by rw [← hw8]; exact below_drewN E7.out _)
            have K8 := Lib.hid (show Blk w8 wr.heap.size 62 #[.int .i64 0, .int .i64 v] by rw [← hw8]; exact K7.out)
            have p8 : w8.cell? ⟨wr.heap.size, 0, none⟩ = some (.int .i64 0) := K8.out.cell 0
            have q8 : w8.cell? ⟨wr.heap.size, 1, none⟩ = some (.int .i64 v) := K8.out.cell 1
            have f8 := K8.out.frozen 1
            have d8 := keepc E8.out hcg
            have hz8 := E8.out.size
            clear hw8
            go_wp2_with (at_builtin; refine wp_appLam (by rfl) _ _ (by rfl) w.heap.size _ _ _ _ (by rfl) (by exact hO.out.keep (E8.out.alloc hz8 _)) _ _ _ ([((0 : Int), v)]) (by rfl) (by exact rd_new2 ([((0 : Int), v)]) _ rfl rfl) (by omega) (by first | omega | (simp; omega) | (simp; done)) ?_; intro A10 c10 w10 own10 hb10 hk10 hg10 hz10)
            rw [← List.flatMap_append] at own10
            have O10 := Lib.hid own10; have B10 := Lib.hid ((below_chain HB.out hzr (E8.out.alloc hz8 (.cells #[.int .i64 0, .int .i64 v] 62))).trans hb10)
            have hzy := (Below.size (E8.out.alloc hz8 (.cells #[.int .i64 0, .int .i64 v] 62)))
            have DD := Lib.hid (show RdI w10 (some ag) n (dpI D) from Rd.atBlk (RdI.below hDd.out (E8.out.alloc hz8 (.cells #[.int .i64 0, .int .i64 v] 62))) (fun a ha _ => by injection ha with ha; subst ha; exact hk10 _ (by omega) (fun ad' h => by injection h with h; subst h; exact hne)) hz10)
            obtain ⟨aj, hAj, nej⟩ : ∃ a', A10 = some a' ∧ a'.block ≠ ag.block := by
              rcases hg10 with h | h
              · exact ⟨ao, h, hne⟩
              · exact ⟨_, h, Nat.ne_of_gt (Nat.lt_of_lt_of_le hag hzy)⟩
            subst hAj
            clear own10 hb10 hk10 hg10 hz10
            go_roundw
            case rel => exact ⟨k + 1, mm + 1, c10, aj, b0 ++ [((0 : Int), v)], by omega, by omega, by go_num, rfl, nej, O10.out, HG.out, DD.out, B10.out⟩
            case measure => simp [intOf]; omega
      · have g1 : (t == 0) = false := by simpa using h0
        have HG := Lib.hid (show (b0 ++ [(t, v)]) ++ ((b.zip D).drop (k + 1)).flatMap (opG a) = S by rw [← HR.out, opG, if_neg h0, List.append_assoc])
        clear HR
        go_wp2_with fail
        go_quiet (fail)
        obtain ⟨w7, hw7⟩ : ∃ w7, w6.drewN nq = w7 := ⟨_, rfl⟩
        rw [hw7]
        have E7 := Lib.hid (show Below wr.heap.size wr w7 by rw [← hw7]; exact below_drewN E6.out _)
        have K7 := Lib.hid (show Blk w7 wr.heap.size 62 #[.int .i64 t, .int .i64 v] by rw [← hw7]; exact K6.out)
        have p7 : w7.cell? ⟨wr.heap.size, 0, none⟩ = some (.int .i64 t) := K7.out.cell 0
        have q7 : w7.cell? ⟨wr.heap.size, 1, none⟩ = some (.int .i64 v) := K7.out.cell 1
        have f7 := K7.out.frozen 1
        have d7 := keepc E7.out hcg
        have hz7 := E7.out.size
        clear hw7
        go_wp2_with fail
        go_quiet (fail)
        obtain ⟨w8, hw8⟩ : ∃ w8, w7.drewN nq = w8 := ⟨_, rfl⟩
        rw [hw8]
        have E8 := Lib.hid (show Below wr.heap.size wr w8 by rw [← hw8]; exact below_drewN E7.out _)
        have K8 := Lib.hid (show Blk w8 wr.heap.size 62 #[.int .i64 t, .int .i64 v] by rw [← hw8]; exact K7.out)
        have p8 : w8.cell? ⟨wr.heap.size, 0, none⟩ = some (.int .i64 t) := K8.out.cell 0
        have q8 : w8.cell? ⟨wr.heap.size, 1, none⟩ = some (.int .i64 v) := K8.out.cell 1
        have f8 := K8.out.frozen 1
        have d8 := keepc E8.out hcg
        have hz8 := E8.out.size
        clear hw8
        go_wp2_with (at_builtin; refine wp_appLam (by rfl) _ _ (by rfl) w.heap.size _ _ _ _ (by rfl) (by exact hO.out.keep (E8.out.alloc hz8 _)) _ _ _ ([(t, v)]) (by rfl) (by exact rd_new2 ([(t, v)]) _ rfl rfl) (by omega) (by first | omega | (simp; omega) | (simp; done)) ?_; intro A10 c10 w10 own10 hb10 hk10 hg10 hz10)
        rw [← List.flatMap_append] at own10
        have O10 := Lib.hid own10; have B10 := Lib.hid ((below_chain HB.out hzr (E8.out.alloc hz8 (.cells #[.int .i64 t, .int .i64 v] 62))).trans hb10)
        have hzy := (Below.size (E8.out.alloc hz8 (.cells #[.int .i64 t, .int .i64 v] 62)))
        have DD := Lib.hid (show RdI w10 (some ag) n (dpI D) from Rd.atBlk (RdI.below hDd.out (E8.out.alloc hz8 (.cells #[.int .i64 t, .int .i64 v] 62))) (fun a ha _ => by injection ha with ha; subst ha; exact hk10 _ (by omega) (fun ad' h => by injection h with h; subst h; exact hne)) hz10)
        obtain ⟨aj, hAj, nej⟩ : ∃ a', A10 = some a' ∧ a'.block ≠ ag.block := by
          rcases hg10 with h | h
          · exact ⟨ao, h, hne⟩
          · exact ⟨_, h, Nat.ne_of_gt (Nat.lt_of_lt_of_le hag hzy)⟩
        subst hAj
        clear own10 hb10 hk10 hg10 hz10
        go_roundw
        case rel => exact ⟨k + 1, mm + 1, c10, aj, b0 ++ [(t, v)], by omega, by omega, by go_num, rfl, nej, O10.out, HG.out, DD.out, B10.out⟩
        case measure => simp [intOf]; omega
    · have HG := Lib.hid (show b0 = S by
        rw [← hr.out, List.drop_eq_nil_of_le (by rw [List.length_zip, HL.out, HDL.out]; omega)]; simp)
      clear hr hDd hb
      go_wp2_with fail
      go_ret
      rw [← HG.out]
      exact ⟨some ao, mm, cc, rfl, hO.out.wrK, hO.out.cap, HB.out⟩
end Go.Proofs.Ytcanahpgkedcjaa
