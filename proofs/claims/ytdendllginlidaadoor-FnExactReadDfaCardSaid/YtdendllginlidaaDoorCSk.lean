/-
  Reading automata: the reference's reader; the law's contracts.
-/
import Derived.Test.YtdendllginlidaaDoorCSj
namespace Go.Proofs.YtdendllginlidaaDoor
open Go.RowKit

theorem bs_listD (x : ByteArray) : ∃ l, x = bs l := ⟨x.data.toList, by apply ByteArray.ext; simp [bs]⟩
theorem sd_no {s : List UInt8} {sym : Int} (h : allD ((spl 59 s).flatMap (spl 44)) = none) : sdR s sym = none := by unfold sdR; rw [h]
theorem sd_yes {s : List UInt8} {sym : Int} {xs : List Int} (h : allD ((spl 59 s).flatMap (spl 44)) = some xs) : sdR s sym = if dfaB (spl 59 s).length sym xs = true ∧ daR (spl 59 s).length sym xs = s then some (((spl 59 s).length : Int), xs) else none := by unfold sdR; rw [h]
theorem words_len (s : List UInt8) : ((spl 59 s).flatMap (spl 44)).length ≤ s.length + 1 := by
  rw [← spl_repl, spl_len]
  have h4 := List.count_le_length (a := 44) (l := repF s)
  rw [repF_len] at h4
  exact Nat.succ_le_succ h4
theorem at_of_drop {α : Type} {L Q R : List α} {c j : Nat} {x : α} (h : L.drop c = Q.drop j ++ R) (hx : Q[j]? = some x) : L[c]? = some x ∧ L.drop (c + 1) = Q.drop (j + 1) ++ R := by
  rw [drop_at hx, List.cons_append] at h
  have h1 : L[c]? = some x := by
    have := congrArg (fun l => l[0]?) h
    simpa [List.getElem?_drop] using this
  exact ⟨h1, by have := drop_at h1; rw [this] at h; injection h⟩
set_option maxHeartbeats 4000000 in
set_option maxRecDepth 100000 in
theorem sReadDfa_t (s : List UInt8) (sym : Int) (R : DaD × Bool) (hR : dfV (sdR s sym) = R) (w : World) (hs : s.length ≤ 1048576) :
    Calls Tryd.prog 4 #[.string (bs s), .int .i64 sym] w (DaOut R w) := by
  have gss := bs_toListS s
  have HR := Lib.hid hR
  obtain ⟨w1, hw1⟩ : ∃ w1, w.alloc (.cells #[i64 0, .slice none 0 0] 24) = w1 := ⟨_, rfl⟩
  have Z1 := Lib.hid (show Blk w1 w.heap.size 24 #[i64 0, .slice none 0 0] by rw [← hw1]; exact Blk.new _ _ _)
  have B1 := Lib.hid (show Below w.heap.size w w1 by rw [← hw1]; exact below_size.alloc (Nat.le_refl _) _)
  have hz1 : w1.heap.size = w.heap.size + 1 := by rw [← hw1]; simp
  obtain ⟨P, hp⟩ : ∃ p, spl 59 s = p := ⟨_, rfl⟩
  obtain ⟨m, hm⟩ : ∃ m, P.length = m := ⟨_, rfl⟩
  obtain ⟨L, hL⟩ : ∃ L, P.flatMap (spl 44) = L := ⟨_, rfl⟩
  have hLL : L.length ≤ 1048577 := by have := words_len s; rw [hp, hL] at this; omega
  have HPL := Lib.hid (show ∀ x ∈ P, x.length ≤ 1048576 from fun x hx => by have := spl_piece 59 s x (by rw [hp]; exact hx); omega)
  have HSP := Lib.hid (show ∀ (w' : World) (cv : Int), cv = 59 → Calls Tryd.prog 9 #[.string (bs s), .int .u8 cv] w' (StrOut P m w') from fun w' cv hcv => by
    have := l01Split_c s 59 cv (by rw [hcv]; rfl) m (by rw [hp, hm]) w' hs
    rw [hp] at this; exact this)
  have HNO := Lib.hid (show allD L = none → sdR s sym = none from fun h => sd_no (by rw [hp, hL]; exact h))
  have HYES := Lib.hid (show ∀ xs, allD L = some xs → sdR s sym = if dfaB m sym xs = true ∧ daR m sym xs = s then some ((m : Int), xs) else none from fun xs h => by
    have := sd_yes (s := s) (sym := sym) (xs := xs) (by rw [hp, hL]; exact h)
    rw [hp, hm] at this; exact this)
  have hmb : m ≤ 1048577 := by rw [← hm, ← hp, spl_len]; have := List.count_le_length (a := 59) (l := s); omega
  have HM := Lib.hid hm; have HL := Lib.hid hL
  clear hR hp hm hL hs
  go_enter Tryd.func4, Tryd.ntmps4
  go_wp2_with fail
  refine (HSP.out _ _ (by omega)).mono ?_
  rintro e w3 ⟨A, c, rfl, hA, hb3⟩
  have PA := Lib.hid hA
  have B3 := Lib.hid (B1.out.trans (hb3.mono B1.out.size)); have Z3 := Lib.hid (Z1.out.keep hb3); have hz3 := hb3.size
  obtain ⟨w4, hw4⟩ : ∃ w4, w3.alloc (.cells #[i64 0, .slice none 0 0] 24) = w4 := ⟨_, rfl⟩
  have b34 : Below w3.heap.size w3 w4 := by rw [← hw4]; exact below_size.alloc (Nat.le_refl _) _
  have BX := Lib.hid (show Blk w4 w3.heap.size 24 #[i64 0, .slice none 0 0] by rw [← hw4]; exact Blk.new _ _ _)
  have p0 := BX.out.cell 0; have p1 := BX.out.cell 1
  have k0 := BX.out.frozen 0; have k1 := BX.out.frozen 1
  simp at p0 p1
  obtain ⟨wy, hwy⟩ : ∃ wy, (w4.setCell ⟨w3.heap.size, 0, none⟩ (i64 (m : Int))).setCell ⟨w3.heap.size, 1, none⟩ (.slice none 0 0) = wy := ⟨_, rfl⟩
  have EY := Lib.hid (show Below w3.heap.size w3 wy by rw [← hwy]; exact (b34.setCell (Nat.le_refl _) _).setCell (Nat.le_refl _) _)
  have BY := Lib.hid (show Blk wy w3.heap.size 24 #[i64 (m : Int), .slice none 0 0] by rw [← hwy]; exact (BX.out.set_ 0 _).set_ 1 _)
  have hgy : w3.heap.size < wy.heap.size := BY.out.lt
  clear hA hb3 hw1 HSP b34
  go_wp2_with fail
  clear p0 p1 k0 k1 hwy hw4 BX
  go_loopw [8] (fun iv wr => ∃ (i cn : Nat) (acc : List Int) (C : Option Addr) (cc : Nat), iv = .int .i64 i ∧ i ≤ m ∧ acc.length = cn ∧ cn ≤ L.length ∧ Hid (L.drop cn = (P.drop i).flatMap (spl 44)) ∧ Hid (allD L = (allD (L.drop cn)).map (acc ++ ·)) ∧ Hid (Blk wr w3.heap.size 24 #[i64 (m : Int), .slice C cn cc]) ∧ Hid (Own wr wy.heap.size 2 1 C cn cc (acc.map i64)) ∧ Hid (Below w3.heap.size w3 wr) ∧ wy.heap.size ≤ wr.heap.size) (fun iv _ => m - (intOf iv).toNat)
  case atStart => exact ⟨0, 0, [], none, 0, rfl, by omega, rfl, by omega, by unfold Hid; rw [List.drop_zero, List.drop_zero, HL.out], by simp [Hid], BY.out, Own.nil, EY.out, Nat.le_refl _⟩
  case round =>
    obtain ⟨i, cn, acc, C, cc, rfl, hi, hac, hcl, hd, hall, hB, hO, hW, hzr⟩ := hrel
    by_cases hlt : i < m
    · obtain ⟨ad, v, rfl, hblk, hbl, _, hv, hc, _⟩ := PA.out.wr.at_ hlt
      rw [List.getElem?_map] at hv
      obtain ⟨x, hx⟩ : ∃ x, P[i]? = some x := ⟨_, List.getElem?_eq_getElem (by rw [HM.out]; exact hlt)⟩
      rw [hx] at hv; injection hv with hv; subst hv
      have hcx : wr.cell? (ad.add i) = some (.string (bs x)) := keepc hW.out hc
      have hxl := HPL.out x (List.mem_of_getElem? hx)
      obtain ⟨Q, hq⟩ : ∃ q, spl 44 x = q := ⟨_, rfl⟩
      obtain ⟨mq, hmq⟩ : ∃ k, Q.length = k := ⟨_, rfl⟩
      have HQL := Lib.hid (show ∀ y ∈ Q, y.length ≤ 1048576 from fun y hy => by have := spl_piece 44 x y (by rw [hq]; exact hy); omega)
      have HSQ := Lib.hid (show ∀ (w' : World) (cv : Int), cv = 44 → Calls Tryd.prog 9 #[.string (bs x), .int .u8 cv] w' (StrOut Q mq w') from fun w' cv hcv => by
        have := l01Split_c x 44 cv (by rw [hcv]; rfl) mq (by rw [hq, hmq]) w' hxl
        rw [hq] at this; exact this)
      have hmqb : mq ≤ 1048577 := by rw [← hmq, ← hq, spl_len]; have := List.count_le_length (a := 44) (l := x); omega
      have HD := Lib.hid (show L.drop cn = Q ++ (P.drop (i + 1)).flatMap (spl 44) by rw [hd.out, drop_at hx, List.flatMap_cons, hq])
      have HMQ := Lib.hid hmq
      clear hx hc hq hmq hd
      obtain ⟨wo, rfl⟩ : ∃ wo : World, wo = wr := ⟨_, rfl⟩
      go_wp2_with fail
      refine (HSQ.out _ _ (by omega)).mono ?_
      rintro e w5 ⟨Aq, cq, rfl, hAq, hb5⟩
      have QA := Lib.hid hAq; have hz5 := hb5.size
      have B5 := Lib.hid (hB.out.keep hb5); have O5 := Lib.hid (hO.out.keep hb5); have W5 := Lib.hid (hW.out.trans (hb5.mono hW.out.size))
      have HNE := Lib.hid (show ∀ a b, C = some a → Aq = some b → a.block ≠ b.block from fun a b ha hb => by
        have h1 := (hO.out.block ha).2.1; have h2 := (hAq.block hb).1; omega)
      clear hAq hb5 HSQ hcx
      go_wp2_with fail
      go_loopw [10] (fun iv wq => ∃ (j cn : Nat) (acc : List Int) (C : Option Addr) (cc : Nat), iv = .int .i64 j ∧ j ≤ mq ∧ acc.length = cn ∧ cn ≤ L.length ∧ Hid (L.drop cn = Q.drop j ++ (P.drop (i + 1)).flatMap (spl 44)) ∧ Hid (allD L = (allD (L.drop cn)).map (acc ++ ·)) ∧ Hid (Blk wq w3.heap.size 24 #[i64 (m : Int), .slice C cn cc]) ∧ Hid (Own wq wy.heap.size 2 1 C cn cc (acc.map i64)) ∧ Hid (Below w3.heap.size w3 wq) ∧ w5.heap.size ≤ wq.heap.size ∧ Hid (Own wq wo.heap.size 9 1 Aq mq cq (Q.map fun l => .string (bs l))) ∧ Hid (∀ a b, C = some a → Aq = some b → a.block ≠ b.block)) (fun iv _ => mq - (intOf iv).toNat)
      case atStart => exact ⟨0, cn, acc, C, cc, rfl, by omega, hac, hcl, by unfold Hid; rw [List.drop_zero]; exact HD.out, hall.out, B5.out, O5.out, W5.out, Nat.le_refl _, QA.out, HNE.out⟩
      case round =>
        clear hB hO hW hall hac hcl B5 O5 W5 QA HNE HD cn acc C cc
        obtain ⟨j, cn, acc, C, cc, rfl, hj, hac, hcl, hd, hall, hB, hO, hW, hzq, hQ, hne⟩ := hrel
        by_cases hlq : j < mq
        · obtain ⟨adq, v, rfl, hqb, hql, _, hv, hc, _⟩ := hQ.out.wr.at_ hlq
          rw [List.getElem?_map] at hv
          obtain ⟨y, hy⟩ : ∃ y, Q[j]? = some y := ⟨_, List.getElem?_eq_getElem (by rw [HMQ.out]; exact hlq)⟩
          rw [hy] at hv; injection hv with hv; subst hv
          obtain ⟨hL1, hL2⟩ := at_of_drop hd.out hy
          have hcL : cn < L.length := (List.getElem?_eq_some_iff.1 hL1).1
          have HL2 := Lib.hid hL2
          obtain ⟨⟨v, q⟩, hvv⟩ : ∃ r, numV (numD y) = r := ⟨_, rfl⟩
          have HC := Lib.hid (l01Number_c y v q wr (HQL.out y (List.mem_of_getElem? hy)) hvv)
          cases q
          · have HG := Lib.hid (show (((0, []), false) : DaD × Bool) = R by rw [← HR.out, HNO.out (allD_no hL1 (numV_no hvv) hall.out)]; rfl)
            have BW := Lib.hid (B3.out.trans (hW.out.mono B3.out.size))
            have ZW := Z3.out.keep hW.out
            have r0 := ZW.cell 0; have r1 := ZW.cell 1
            have f0 := ZW.frozen 0; have f1 := ZW.frozen 1
            simp at r0 r1
            clear hvv hL1 hL2 hy ZW
            go_wp2_with (go_at_call 10; refine (HC.out).mono ?_; rintro e w' ⟨rfl, rfl⟩)
            refine bodyPost_ret (v := .tuple #[.agg #[i64 0, .slice none 0 0], .bool false]) (by simp [results, Tryd.results4, go_sem, r0, r1]) rfl ?_
            rw [← HG.out]
            exact DaOut.bad ((BW.out.setCell (by exact Nat.le_refl _) _).setCell (by exact Nat.le_refl _) _)
          · have HDD := Lib.hid (allD_yes hL1 (numV_yes hvv) hall.out)
            have HE := Lib.hid (show (acc ++ [v]).map i64 = acc.map i64 ++ [i64 v] by rw [List.map_append]; rfl)
            have x0 := hB.out.cell 0; have x1 := hB.out.cell 1
            have y0 := hB.out.frozen 0; have y1 := hB.out.frozen 1
            simp at x0 x1
            have hgw := hB.out.lt
            clear hvv hL1 hL2 hy
            go_wp2_with (first | (go_at_call 10; refine (HC.out).mono ?_; rintro e w' ⟨rfl, rfl⟩) | (at_builtin; refine wp_app1 (by rfl) _ _ 22 2 (.int .i64 0) 8 (by rfl) Tryd.underlying22 info_i64 rfl wy.heap.size C cn cc (acc.map i64) (by rfl) (by exact hO.out.alloc _) wr.heap.size (i64 v) (by rfl) (by exact new_cell _ _ _ 0) rfl (by omega) (by omega) (by simp; omega) ?_; intro g' cap w6 own6 hb6 hk6 hg6 hz6; have O6 := Lib.hid own6; have B6 := Lib.hid (show Blk w6 w3.heap.size 24 #[i64 (m : Int), .slice C cn cc] from (hB.out.keep (below_size.alloc (Nat.le_refl _) _)).of_block (hk6 _ (by simp; omega) (fun ad' e => by have := (hO.out.block e).1; omega))); have W6 := Lib.hid (show Below w3.heap.size w3 w6 from (hW.out.trans ((below_size.alloc (Nat.le_refl _) _).mono hW.out.size)).trans (hb6.mono (by omega))); have Q6 := Lib.hid (show Own w6 wo.heap.size 9 1 (some adq) mq cq (Q.map fun l => .string (bs l)) from (hQ.out.alloc _).move (fun b hb => hk6 _ (by injection hb with hb; subst hb; simp; omega) (fun ad' e => hne.out ad' b e hb))); have N6 := Lib.hid (show ∀ a b, some (⟨g', 0, none⟩ : Addr) = some a → some adq = some b → a.block ≠ b.block from fun a b ha hb => by (rcases hg6 with h | h; exact hne.out a b (h.trans ha) hb; (injection ha with ha; injection hb with hb; subst ha; subst hb; simp at h; show g' ≠ adq.block; omega))); have zz6 : wr.heap.size + 1 ≤ w6.heap.size := (by simpa using hz6); have g6c := B6.out.cell 0; have g6d := B6.out.cell 1; have g6f := B6.out.frozen 0; have g6g := B6.out.frozen 1; simp at g6c g6d; clear own6 hb6 hk6 hg6))
            go_roundw
            case rel => exact ⟨j + 1, cn + 1, acc ++ [v], some ⟨g', 0, none⟩, cap, by go_num, by omega, by simp; omega, by omega, HL2.out, HDD.out, B6.out.set_ 1 _, by unfold Hid; rw [HE.out]; exact O6.out.move (w' := w6.setCell ⟨w3.heap.size, 1, none⟩ (.slice (some ⟨g', 0, none⟩) (cn + 1) cap)) (fun ad' e => Below.heap_setCell _ _ _ _ (by have := (O6.out.block e).1; show ad'.block ≠ w3.heap.size; omega)), W6.out.setCell (by exact Nat.le_refl _) _, by simp; omega, Q6.out.move (w' := w6.setCell ⟨w3.heap.size, 1, none⟩ (.slice (some ⟨g', 0, none⟩) (cn + 1) cap)) (fun ad' e => Below.heap_setCell _ _ _ _ (by have := (Q6.out.block e).1; show ad'.block ≠ w3.heap.size; omega)), N6.out⟩
            case measure => simp [intOf]; omega
        · obtain rfl : j = mq := by omega
          have HD2 := Lib.hid (show L.drop cn = (P.drop (i + 1)).flatMap (spl 44) by rw [hd.out, List.drop_eq_nil_of_le (by rw [HMQ.out]; exact Nat.le_refl _), List.nil_append])
          go_wp2_with fail
          go_roundw
          case rel => exact ⟨i + 1, cn, acc, C, cc, by go_num, by omega, hac, hcl, HD2.out, hall.out, hB.out, hO.out, hW.out, by omega⟩
          case measure => simp [intOf]; omega
    · obtain rfl : i = m := by omega
      have hLn : L.drop cn = [] := by rw [hd.out, List.drop_eq_nil_of_le (by rw [HM.out]; exact Nat.le_refl _)]; rfl
      have HY := Lib.hid (HYES.out acc (by rw [hall.out, hLn, allD, Option.map_some, List.append_nil]))
      have BW := Lib.hid (show Below w.heap.size w wr from B3.out.trans (hW.out.mono B3.out.size))
      have ZW := Lib.hid (Z3.out.keep hW.out)
      have hzW := BW.out.size
      have c0 := hB.out.cell 0; have c1 := hB.out.cell 1
      have HRI := Lib.hid (show RdI wr C cn acc from hO.out.wr.rdI)
      have HIS := Lib.hid (l28Is_c w3.heap.size (i : Int) sym C cn cc acc wr c0 c1 HRI.out (by omega))
      have HC1 := Lib.hid (show wr.cell? ⟨w3.heap.size, 1, none⟩ = some (.slice C cn cc) from c1)
      obtain ⟨qd, hqd⟩ : ∃ q, dfaB (i : Int) sym acc = q := ⟨_, rfl⟩
      have HQD := Lib.hid hqd
      rw [HQD.out] at HIS
      clear hqd c0 c1 hLn hd hlt
      cases qd
      · have HG := Lib.hid (show (((0, []), false) : DaD × Bool) = R by rw [← HR.out, HY.out, if_neg (fun h => by rw [HQD.out] at h; cases h.1)]; rfl)
        have r0 := ZW.out.cell 0; have r1 := ZW.out.cell 1
        have f0 := ZW.out.frozen 0; have f1 := ZW.out.frozen 1
        simp at r0 r1
        go_wp2_with (go_at_call 11; refine HIS.out.mono ?_; rintro e wq ⟨rfl, hq⟩; obtain ⟨nq2, rfl⟩ := hq)
        refine bodyPost_ret (v := .tuple #[.agg #[i64 0, .slice none 0 0], .bool false]) (by simp [results, Tryd.results4, go_sem, r0, r1]) rfl ?_
        rw [← HG.out]
        exact DaOut.bad (((below_drewN BW.out nq2).setCell (by exact Nat.le_refl _) _).setCell (by exact Nat.le_refl _) _)
      obtain ⟨pp1, pp2, pp3, _, pp5⟩ := dfaB_parts HQD.out
      have hn120 : cn ≤ 120 := by
        have := mul_bd pp1 pp2
        omega
      obtain ⟨S, rfl⟩ : ∃ S : Nat, sym = (S : Int) := ⟨sym.toNat, by omega⟩
      have hS : 2 ≤ S ∧ S ≤ 6 := by omega
      have HI64 := Lib.hid (show i64s acc from fun x hx => by have := pp5 x hx; omega)
      obtain ⟨txt, htx⟩ : ∃ u, daR (i : Int) (S : Int) acc = u := ⟨_, rfl⟩
      have HTX := Lib.hid htx; have gtx := bs_toListS txt
      have HTE := Lib.hid (show ∀ w', Qt wr w' → Calls Tryd.prog 12 #[.pointer (some ⟨w3.heap.size, 0, none⟩), .int .i64 S] w' fun e w'' => e = .returned (.string (bs txt)) ∧ Below w'.heap.size w' w'' from fun w' hq => by
        rw [← HTX.out, daR, if_pos HQD.out, Int.toNat_natCast, hac]
        exact l28Text_c w3.heap.size S C cn cc acc w' (keepc (hq.below _) HC1.out) (HRI.out.below (hq.below _)) hS (by omega) HI64.out)
      clear htx pp1 pp2 pp3 pp5
      by_cases htt : txt = s
      · have g9 : (txt == s) = true := by rw [beq_iff_eq]; exact htt
        have HG := Lib.hid (show (((i : Int), acc), true) = R by rw [← HR.out, HY.out, if_pos ⟨HQD.out, HTX.out.trans htt⟩]; rfl)
        clear htt
        go_wp2_with fail
        refine HIS.out.mono ?_
        rintro e wq ⟨rfl, hq⟩
        have HQ := Lib.hid hq; clear hq
        go_wp2_with fail
        refine (HTE.out _ HQ.out).mono ?_
        rintro e wz ⟨rfl, hbz⟩
        have EZ := Lib.hid (show Below wr.heap.size wr wz from (HQ.out.below _).trans (hbz.mono (HQ.out.below wr.heap.size).size))
        have BV := hB.out.keep EZ.out; have ZZ := ZW.out.keep EZ.out; have BZ := Lib.hid (BW.out.trans (EZ.out.mono hzW))
        have m0 := BV.cell 0; have m1 := BV.cell 1
        have n0 := BV.frozen 0; have n1 := BV.frozen 1
        simp at m0 m1
        have r0 := ZZ.cell 0; have r1 := ZZ.cell 1
        have f0 := ZZ.frozen 0; have f1 := ZZ.frozen 1
        simp at r0 r1
        clear hbz ZZ BV
        go_wp2_with fail
        refine bodyPost_ret (v := .tuple #[.agg #[i64 (i : Int), .slice C cn cc], .bool true]) (by simp [results, Tryd.results4, go_sem, r0, r1]) rfl ?_
        rw [← HG.out]
        refine ⟨C, cn, cc, rfl, ?_, by omega, (BZ.out.setCell (by exact Nat.le_refl _) _).setCell (by exact Nat.le_refl _) _⟩
        have hlt9 : w.heap.size < wy.heap.size := by omega
        have h9 := (((((hO.out.wr.below EZ.out).wider (Nat.le_refl _) EZ.out.size)).set_far (p := ⟨w.heap.size, 0, none⟩) (.inl hlt9) (i64 (i : Int))).set_far (p := ⟨w.heap.size, 1, none⟩) (.inl hlt9) (.slice C cn cc))
        have hsz9 : wz.heap.size ≤ ((wz.setCell ⟨w.heap.size, 0, none⟩ (i64 (i : Int))).setCell ⟨w.heap.size, 1, none⟩ (.slice C cn cc)).heap.size := by simp
        exact h9.wider (Nat.le_of_lt hlt9) hsz9
      · have g9 : (txt == s) = false := by rw [beq_eq_false_iff_ne]; exact htt
        have HG := Lib.hid (show (((0, []), false) : DaD × Bool) = R by rw [← HR.out, HY.out, if_neg (fun h => htt (HTX.out.symm.trans h.2))]; rfl)
        clear htt
        go_wp2_with fail
        refine HIS.out.mono ?_
        rintro e wq ⟨rfl, hq⟩
        have HQ := Lib.hid hq; clear hq
        go_wp2_with fail
        refine (HTE.out _ HQ.out).mono ?_
        rintro e wz ⟨rfl, hbz⟩
        have EZ := Lib.hid (show Below wr.heap.size wr wz from (HQ.out.below _).trans (hbz.mono (HQ.out.below wr.heap.size).size))
        have ZZ := ZW.out.keep EZ.out; have BZ := Lib.hid (BW.out.trans (EZ.out.mono hzW))
        have r0 := ZZ.cell 0; have r1 := ZZ.cell 1
        have f0 := ZZ.frozen 0; have f1 := ZZ.frozen 1
        simp at r0 r1
        clear hbz ZZ
        go_wp2_with fail
        refine bodyPost_ret (v := .tuple #[.agg #[i64 0, .slice none 0 0], .bool false]) (by simp [results, Tryd.results4, go_sem, r0, r1]) rfl ?_
        rw [← HG.out]
        exact DaOut.bad ((BZ.out.setCell (by exact Nat.le_refl _) _).setCell (by exact Nat.le_refl _) _)
theorem sReadDfa_c (x : ByteArray) (sym : Int) (RR : DaD × Bool) (hRR : dfV (sdR x.data.toList sym) = RR) (w : World) (hn : x.size ≤ 1048576) : Calls Tryd.prog 4 #[.string x, .int .i64 sym] w (DaOut RR w) := by
  obtain ⟨s, rfl⟩ := bs_listD x
  rw [bs_dataS] at hRR
  exact sReadDfa_t s sym RR hRR w (by rw [bs_size] at hn; exact hn)
theorem iReadDfa_c (x : ByteArray) (sym : Int) (RR : DaD × Bool) (hRR : dfV (sdR x.data.toList sym) = RR) (w : World) (hn : x.size ≤ 1048576) (ht : LibS w) : Calls Tryd.prog 5 #[.string x, .int .i64 sym] w (DaOut RR w) := by
  obtain ⟨s, rfl⟩ := bs_listD x
  rw [bs_dataS] at hRR
  exact iReadDfa_t s sym RR hRR w (by rw [bs_size] at hn; exact hn) ht
end Go.Proofs.YtdendllginlidaaDoor
