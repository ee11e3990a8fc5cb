/-
  Contracts of chapter 22: valid programs, of the reference and of the program.
-/
import Derived.Test.YtkchgjegdmcnaaaDoorCWa
import Derived.Test.YtkchgjegdmcnaaaDoorC18a
import Derived.Test.YtkchgjegdmcnaaaDoorOwnC
namespace Go.Proofs.YtkchgjegdmcnaaaDoor
open Go.RowKit

theorem Own.capN {w : World} {B k n c : Nat} {e : TypeId} {A : Option Addr} {vs : List Value} (h : Own w B e k A n c vs) : n ≤ c := by
  rcases h.2 with ⟨hv, h0⟩ | ⟨g, cap, cur, hv, hB, hh, h1, h2, h3, h4⟩
  · omega
  · injection hv with ha _ hc; omega
theorem Own.drewN' {w : World} {B k n c : Nat} {e : TypeId} {A : Option Addr} {vs : List Value} (h : Own w B e k A n c vs) (j : Nat) : Own (w.drewN j) B e k A n c vs := h
theorem RdCS.part {w : World} {ad : Addr} {n k m : Nat} {ps : List Ct} (h : RdS w (sgCS (some ad) n ps)) (hk : k + m ≤ n) : RdS w (sgCS (some (ad.add (k * 4))) m ((ps.drop k).take m)) := by
  have hl := RdCS.len h
  refine RdS.cons ?_ fun s hs => ?_
  · refine ⟨by rw [flatX_len hdC 4 hdC_len, List.length_take, List.length_drop, Nat.min_eq_left (by omega)], fun h0 => ?_⟩
    obtain ⟨ad', e, hb, hc⟩ := h.head.2 (by simp at h0 ⊢; omega)
    injection e with e; subst e
    refine ⟨_, rfl, by rw [block_add]; exact hb, fun j v hj => ?_⟩
    rw [add_add]
    refine hc (k * 4 + j) v ?_
    have e1 : (ps.flatMap hdC) = (ps.take k).flatMap hdC ++ ((((ps.drop k).take m).flatMap hdC) ++ (((ps.drop k).drop m).flatMap hdC)) := by
      rw [← List.flatMap_append, List.take_append_drop, ← List.flatMap_append, List.take_append_drop]
    rw [e1, List.getElem?_append_right (by rw [flatX_len hdC 4 hdC_len, List.length_take]; omega), flatX_len hdC 4 hdC_len, List.length_take, Nat.min_eq_left (by omega), Nat.add_sub_cancel_left, List.getElem?_append_left (List.getElem?_eq_some_iff.1 hj).1]
    exact hj
  · obtain ⟨t, ht, rfl⟩ := List.mem_map.1 hs
    exact h.tail (bodyC t) (List.mem_map_of_mem (List.mem_of_mem_drop (List.mem_of_mem_take ht)))
def i64N (t : Nat) : Value := i64 (t : Int)
def stkV (ts : List Nat) : List Value := ts.reverse.map i64N
theorem stkV_len (ts : List Nat) : (stkV ts).length = ts.length := by simp [stkV]
theorem stkV_cons (t : Nat) (ts : List Nat) : stkV (t :: ts) = stkV ts ++ [i64N t] := by simp [stkV]

theorem info_int : (Tryd.prog.info? 3).map (fun i => (i.zero, i.size, i.bytes)) = some (some (.int .i64 0), 1, 8) := by kernel_rfl
set_option maxHeartbeats 4000000 in
set_option maxRecDepth 100000 in
theorem l22Is_c (A : Option Addr) (n cp : Nat) (ps : List Ct) (q : Bool) (w : World) (h : RdS w (sgCS A n ps)) (hn : n ≤ 1000000000) (hi0 : ∀ t ∈ ps, t.n ≤ 1000000000) (hq : validW (ps.map datC) = q) :
    Calls Tryd.prog 18 #[.slice A n cp] w fun e w' => e = .returned (.bool q) ∧ Below w.heap.size w w' := by
  have HL := Lib.hid (RdCS.len h)
  have HQ := Lib.hid (show (decide (n ≤ 80) && vcL (ps.map datC)) = q by rw [← hq, validW, List.length_map, RdCS.len h])
  have H := Lib.hid h; have HI := Lib.hid hi0; clear h hq hi0
  obtain ⟨D, hD⟩ : ∃ D, ps.map datC = D := ⟨_, rfl⟩
  have HD := Lib.hid hD
  have HDL := Lib.hid (show D.length = n by rw [← hD, List.length_map, HL.out])
  rw [hD] at HQ
  clear hD
  by_cases h80 : n ≤ 80
  rotate_left
  · have k2 : decide ((80 : Int) < (n : Int)) = true := by rw [decide_eq_true_eq]; omega
    have HF := Lib.hid (show false = q by rw [← HQ.out]; simp [h80])
    go_enter Tryd.func18, Tryd.ntmps18
    go_wp2_with fail
    go_ret
    exact ⟨by rw [← HF.out]; rfl, below_size⟩
  have k2 : decide ((80 : Int) < (n : Int)) = false := by rw [decide_eq_false_iff_not]; omega
  have HF := Lib.hid (show vcE D 0 [n] = q by rw [← HQ.out, vcE, vcE, ← HDL.out, segD_all, HDL.out]; simp [h80])
  clear HQ
  go_enter Tryd.func18, Tryd.ntmps18
  go_wp2_with fail
  clear k2
  go_loopw [3, 4] (fun ev iv wr => ∃ (i m cE : Nat) (ad : Addr) (ts : List Nat), i ≤ n ∧ m ≤ i + 1 ∧ iv = .int .i64 i ∧ ev = .slice (some ad) m cE ∧ Hid (ts.length = m) ∧ Hid (chainS n i ts) ∧ Hid (vcE D i ts = q) ∧ Hid (Own wr w.heap.size 3 1 (some ad) m cE (stkV ts)) ∧ Hid (Below w.heap.size w wr)) (fun _ iv _ => n - (intOf iv).toNat)
  case atStart => exact ⟨0, 1, 1, ⟨w.heap.size, 0, none⟩, [n], by omega, by omega, rfl, rfl, rfl, ⟨rfl, by omega⟩, HF.out, Own.fullK (Nat.le_refl _) rfl rfl (by omega), below_size.alloc (Nat.le_refl _) _⟩
  case round =>
    obtain ⟨i, m, cE, ad, ts, hin, hmi, rfl, rfl, hts, hch, hr, hO, hB⟩ := hrel
    by_cases hlt : i < n
    · go_wp2_with fail
      go_loop [3] (fun ev => ∃ (m1 : Nat) (ts : List Nat), m1 ≤ i + 1 ∧ ev = .slice (some ad) m1 cE ∧ Hid (ts.length = m1) ∧ Hid (chainS n i ts) ∧ Hid (vcE D i ts = q) ∧ Hid (Own wr w.heap.size 3 1 (some ad) m1 cE (stkV ts))) (fun ev => (match ev with | .slice _ k _ => k | _ => 0))
      case atStart => exact ⟨m, ts, hmi, rfl, hts, hch, hr, hO⟩
      case round =>
        clear hts hch hr hO hmi
        obtain ⟨m1, ts, hmi, rfl, hts, hch, hr, hO⟩ := hrel
        obtain ⟨t, ts', rfl⟩ : ∃ t ts', ts = t :: ts' := by
          cases ts with
          | nil => exact absurd hch.out (by simp [chainS])
          | cons t ts' => exact ⟨t, ts', rfl⟩
        obtain ⟨m2, rfl⟩ : ∃ m2, m1 = m2 + 1 := ⟨ts'.length, by have := hts.out; simpa using this.symm⟩
        have HT := Lib.hid (show ts'.length = m2 by have := hts.out; simpa using this)
        have htn := chainS_le hch.out
        have hcell : wr.cell? (ad.add m2) = some (.int .i64 (t : Int)) := by
          obtain ⟨a, v, e, _, _, _, hv, hc, _⟩ := hO.out.wr.at_ (k := m2) (by omega)
          injection e with e; subst e
          rw [stkV_cons, List.getElem?_append_right (by rw [stkV_len, HT.out]; exact Nat.le_refl _), stkV_len, HT.out, Nat.sub_self] at hv
          injection hv with hv; subst hv
          exact hc
        have hcap := hO.out.capN
        have v1 : IntKind.i64.wrap (((m2 + 1 : Nat) : Int) - 1) = (m2 : Int) := by rw [IntWalk.i64_in _ (by omega)]; omega
        by_cases hpop : ts' ≠ [] ∧ t = i
        · obtain ⟨hne, rfl⟩ := hpop
          have hm2 : 0 < m2 := by have := HT.out; cases ts' with
            | nil => exact absurd rfl hne
            | cons a b => simp at this; omega
          have g1 : decide ((1 : Int) < ((m2 + 1 : Nat) : Int)) = true := by rw [decide_eq_true_eq]; omega
          have HC2 := Lib.hid (show chainS n t ts' by
            cases ts' with
            | nil => exact absurd rfl hne
            | cons a b => exact hch.out.2)
          have HR2 := Lib.hid (show vcE D t ts' = q by rw [← hr.out, vcE_pop])
          have HO2 := Lib.hid (show Own wr w.heap.size 3 1 (some ad) m2 cE (stkV ts') by
            have := hO.out.cut (m := m2) (by omega) (by simp)
            rwa [stkV_cons, Nat.mul_one, List.take_append_of_le_length (by rw [stkV_len, HT.out]; exact Nat.le_refl _), List.take_of_length_le (by rw [stkV_len, HT.out]; exact Nat.le_refl _)] at this)
          clear hts hch hr hO hne
          go_wp2_with fail
          go_round
          case rel => exact ⟨m2, ts', by omega, by first | rfl | go_num, HT.out, HC2.out, HR2.out, HO2.out⟩
          case measure => simp
        have hit := chainS_open hch.out hlt (by by_cases h : ts' = []; · exact .inl h
                                                · exact .inr fun h2 => hpop ⟨h, h2⟩)
        have g2 : ((t : Int) == (i : Int)) = false := by simp; omega
        clear hpop
        obtain ⟨ap, x, rfl, hab, hx, hc0, hc1, hc2, hc3, hrd⟩ := RdCS.at_ (H.out.below hB.out) hlt
        have HX := Lib.hid (show D[i]? = some (datC x) by rw [← HD.out, List.getElem?_map, hx]; rfl)
        have hxi := HI.out _ (List.mem_of_getElem? hx)
        obtain ⟨kd, vr, ln, xA, xn, xc, xs⟩ := x
        simp only [datC] at HX
        simp only at hc0 hc1 hc2 hc3 hrd hxi
        have R := Lib.hid hrd.head
        have gk : (kd == 0) = decide (kd = 0) := by by_cases h : kd = 0 <;> simp [h]
        clear hrd hx hts gk
        have hgo : decide ((1 : Int) < (m2 : Int) + 1) = false ∨ decide ((1 : Int) < (m2 : Int) + 1) = true := by cases decide ((1 : Int) < (m2 : Int) + 1) <;> simp
        have hzB := hB.out.size
        rcases hgo with g1 | g1
        all_goals
          cases hqe : validE xs
          · have HG := Lib.hid (show false = q by rw [← hr.out, vcE_val HX.out hit (.inl hqe)])
            go_wp2_with (go_at_call 31; refine (l22Expr_c _ _ _ xs false _ R.out hxi hqe).mono ?_; rintro e w1 ⟨rfl, hb1⟩)
            go_ret
            exact ⟨by rw [← HG.out]; rfl, below_chain hB.out hzB hb1⟩
          cases hqv : inB vr 0 5
          · have HG := Lib.hid (show false = q by rw [← hr.out, vcE_val HX.out hit (.inr hqv)])
            go_wp2_with (first
              | (go_at_call 31; refine (l22Expr_c _ _ _ xs true _ R.out hxi hqe).mono ?_; rintro e w1 ⟨rfl, hb1⟩; have c1 := keepc hb1 hc1)
              | (go_at_call 32; refine (l00In_b vr 0 5 false hqv _).mono ?_; rintro e w' ⟨rfl, rfl⟩))
            go_ret
            exact ⟨by rw [← HG.out]; rfl, below_chain hB.out hzB hb1⟩
          by_cases hk0 : kd = 0
          · subst hk0
            by_cases hl0 : ln = 0
            · subst hl0
              have HG := Lib.hid (show vcE D (i + 1) (t :: ts') = q by rw [← hr.out, vcE_set HX.out hit, hqe, hqv]; rfl)
              have HCH := Lib.hid (chainS_up hch.out hit)
              clear hr hch
              go_wp2_with (first
                | (go_at_call 31; refine (l22Expr_c _ _ _ xs true _ R.out hxi hqe).mono ?_; rintro e w1 ⟨rfl, hb1⟩; have c0 := keepc hb1 hc0; have c1 := keepc hb1 hc1; have c2 := keepc hb1 hc2)
                | (go_at_call 32; refine (l00In_b vr 0 5 true hqv _).mono ?_; rintro e w' ⟨rfl, rfl⟩))
              go_roundw
              case rel => exact ⟨i + 1, m2 + 1, cE, ad, t :: ts', by omega, by omega, by go_num, rfl, by unfold Hid; rw [List.length_cons, HT.out], HCH.out, HG.out, hO.out.keep hb1, below_chain hB.out hzB hb1⟩
              case measure => simp [intOf]; omega
            · have gl : (ln != 0) = true := by simpa using hl0
              have HG := Lib.hid (show false = q by rw [← hr.out, vcE_set HX.out hit]; simp [hl0])
              go_wp2_with (first
                | (go_at_call 31; refine (l22Expr_c _ _ _ xs true _ R.out hxi hqe).mono ?_; rintro e w1 ⟨rfl, hb1⟩; have c0 := keepc hb1 hc0; have c1 := keepc hb1 hc1; have c2 := keepc hb1 hc2)
                | (go_at_call 32; refine (l00In_b vr 0 5 true hqv _).mono ?_; rintro e w' ⟨rfl, rfl⟩))
              go_ret
              exact ⟨by rw [← HG.out]; rfl, below_chain hB.out hzB hb1⟩
          have gk0 : (kd == 0) = false := by simpa using hk0
          by_cases hk1 : kd = 1
          rotate_left
          · have gk1 : (kd == 1) = false := by simpa using hk1
            have HG := Lib.hid (show false = q by rw [← hr.out, vcE_kind HX.out hit hk0 hk1])
            go_wp2_with (first
              | (go_at_call 31; refine (l22Expr_c _ _ _ xs true _ R.out hxi hqe).mono ?_; rintro e w1 ⟨rfl, hb1⟩; have c0 := keepc hb1 hc0; have c1 := keepc hb1 hc1; have c2 := keepc hb1 hc2)
              | (go_at_call 32; refine (l00In_b vr 0 5 true hqv _).mono ?_; rintro e w' ⟨rfl, rfl⟩))
            go_ret
            exact ⟨by rw [← HG.out]; rfl, below_chain hB.out hzB hb1⟩
          subst hk1
          by_cases hv0 : vr = 0
          rotate_left
          · have gv0 : (vr != 0) = true := by simpa using hv0
            have HG := Lib.hid (show false = q by rw [← hr.out, vcE_var HX.out hit hv0])
            go_wp2_with (first
              | (go_at_call 31; refine (l22Expr_c _ _ _ xs true _ R.out hxi hqe).mono ?_; rintro e w1 ⟨rfl, hb1⟩; have c0 := keepc hb1 hc0; have c1 := keepc hb1 hc1; have c2 := keepc hb1 hc2)
              | (go_at_call 32; refine (l00In_b vr 0 5 true hqv _).mono ?_; rintro e w' ⟨rfl, rfl⟩))
            go_quiet (fail)
            go_wp2_with fail
            go_ret
            exact ⟨by rw [← HG.out]; rfl, by first | exact below_chain hB.out hzB hb1 | exact below_chain hB.out hzB (below_drewN hb1 _)⟩
          subst hv0
          cases hlq : inB ln 0 ((t : Int) - i - 1)
          · have HG := Lib.hid (show false = q by rw [← hr.out, vcE_bad HX.out hit (by rw [HDL.out]; exact htn.2) hlq])
            go_wp2_with (first
              | (go_at_call 31; refine (l22Expr_c _ _ _ xs true _ R.out hxi hqe).mono ?_; rintro e w1 ⟨rfl, hb1⟩; have c0 := keepc hb1 hc0; have c1 := keepc hb1 hc1; have c2 := keepc hb1 hc2; have ce := keepc hb1 hcell)
              | (go_at_call 32; refine (l00In_b 0 0 5 true hqv _).mono ?_; rintro e w' ⟨rfl, rfl⟩))
            go_quiet ((go_at_call 32; first | exact quiet_left (l00In_b ln 0 ((t : Int) - i - 1) false hlq _) | exact quiet_add_left (l00In_b ln 0 ((t : Int) - i - 1) false hlq _)))
            go_wp2_with fail
            go_ret
            exact ⟨by rw [← HG.out]; rfl, below_chain hB.out hzB (below_drewN hb1 _)⟩
          have hlr := inB_t hlq
          obtain ⟨mm, rfl⟩ : ∃ mm : Nat, ln = (mm : Int) := ⟨ln.toNat, by omega⟩
          have HG := Lib.hid (show vcE D (i + 1) ((i + 1 + mm) :: t :: ts') = q by rw [← hr.out, vcE_while HX.out hit (by rw [HDL.out]; exact htn.2) (by omega), hqe]; simp)
          have HCH := Lib.hid (chainS_push hch.out (m := mm) (by omega))
          clear hr hch
          go_wp2_with (first
            | (go_at_call 31; refine (l22Expr_c _ _ _ xs true _ R.out hxi hqe).mono ?_; rintro e w1 ⟨rfl, hb1⟩; have c0 := keepc hb1 hc0; have c1 := keepc hb1 hc1; have c2 := keepc hb1 hc2; have ce := keepc hb1 hcell)
            | (go_at_call 32; refine (l00In_b 0 0 5 true hqv _).mono ?_; rintro e w' ⟨rfl, rfl⟩))
          go_quiet ((go_at_call 32; first | exact quiet_left (l00In_b mm 0 ((t : Int) - i - 1) true hlq _) | exact quiet_add_left (l00In_b mm 0 ((t : Int) - i - 1) true hlq _)))
          have O1 := Lib.hid ((hO.out.keep hb1).drewN' nq)
          have E1 := Lib.hid (below_chain hB.out hzB (below_drewN hb1 nq))
          have hz1 : w.heap.size ≤ w1.heap.size := E1.out.size
          clear hO hb1 hcap
          go_wp2_with (at_builtin; refine wp_app1 (by rfl) _ _ 59 3 (.int .i64 0) 8 (by rfl) Tryd.underlying59 info_int rfl w.heap.size (some ad) (m2 + 1) cE (stkV (t :: ts')) (by rfl) (by exact O1.out.alloc _) (w1.drewN nq).heap.size (i64 ((i : Int) + 1 + mm)) (by rfl) (by exact new_cell _ _ _ 0) rfl (by omega) (by omega) (by simp; omega) ?_; intro g' cap w3 own3 hb3 hk3 hg3 hz3)
          have O3 := Lib.hid own3; have B3 := Lib.hid ((E1.out.alloc hz1 _).trans hb3)
          clear own3 hb3 hk3 hg3 hz3
          go_wp2_with fail
          go_roundw
          case rel => exact ⟨i + 1, m2 + 1 + 1, cap, ⟨g', 0, none⟩, (i + 1 + mm) :: t :: ts', by omega, by omega, by go_num, rfl, by unfold Hid; rw [List.length_cons, List.length_cons, HT.out], HCH.out, HG.out, by unfold Hid; rw [stkV_cons]; exact O3.out, B3.out⟩
          case measure => simp [intOf]; omega
    · have HG := Lib.hid (show true = q by rw [← hr.out, vcE_end D ts i (by rw [HDL.out]; omega) (fun t ht => by have := chainS_all hch.out t ht; rw [HDL.out]; omega)])
      go_wp2_with fail
      go_ret
      exact ⟨by rw [← HG.out]; rfl, hB.out⟩
end Go.Proofs.YtkchgjegdmcnaaaDoor
