/-
  Parts of the proof, one behind the other: contracts of the functions that the law reaches, and plain laws.
-/
import Derived.Test.YtebjpmmgdkepjaaGreatDoorLot17
import Derived.Test.YtebjpmmgdkepjaaGreatDoorLot25
import Derived.Test.YtebjpmmgdkepjaaGreatDoorLot26
import Derived.Test.YtebjpmmgdkepjaaGreatDoorLot27
/-
  Functions as terms: the program's reader of a term's text, second part: all elements.
-/
namespace Go.Proofs.YtebjpmmgdkepjaaGreatDoor
open Go.RowKit

theorem rdI_nil {f : Nat} {out : LT} : rdI f [] out = out := by cases f <;> rfl
theorem rdI_full {f : Nat} {c : UInt8} {s : List UInt8} {out : LT} (h : 400 < out.length) : rdI (f + 1) (c :: s) out = out := by rw [rdI, if_pos h]
theorem rdI_app {f : Nat} {c : UInt8} {s : List UInt8} {out : LT} (h : ¬ 400 < out.length) (hc : c = 40) : rdI (f + 1) (c :: s) out = rdI f s (out ++ [(2, 0)]) := by rw [rdI, if_neg h, if_pos hc]
theorem rdI_skip {f : Nat} {c : UInt8} {s : List UInt8} {out : LT} (h : ¬ 400 < out.length) (h1 : c ≠ 40) (hc : c = 32 ∨ c = 41) : rdI (f + 1) (c :: s) out = rdI f s out := by rw [rdI, if_neg h, if_neg h1, if_pos hc]
theorem rdI_abs {f : Nat} {c : UInt8} {s : List UInt8} {out : LT} (h : ¬ 400 < out.length) (h1 : c ≠ 40) (h2 : ¬ (c = 32 ∨ c = 41)) (hc : c = 94) : rdI (f + 1) (c :: s) out = rdI f s (out ++ [(1, 0)]) := by rw [rdI, if_neg h, if_neg h1, if_neg h2, if_pos hc]
theorem rdI_no {f : Nat} {c : UInt8} {s : List UInt8} {out : LT} (h : ¬ 400 < out.length) (h1 : c ≠ 40) (h2 : ¬ (c = 32 ∨ c = 41)) (h3 : c ≠ 94) (h4 : numD ((c :: s).take (dgN (c :: s))) = none) : rdI (f + 1) (c :: s) out = [] := by rw [rdI, if_neg h, if_neg h1, if_neg h2, if_neg h3, h4]
theorem rdI_num {f : Nat} {c : UInt8} {s : List UInt8} {out : LT} {n : Int} (h : ¬ 400 < out.length) (h1 : c ≠ 40) (h2 : ¬ (c = 32 ∨ c = 41)) (h3 : c ≠ 94) (h4 : numD ((c :: s).take (dgN (c :: s))) = some n) : rdI (f + 1) (c :: s) out = rdI f ((c :: s).drop (dgN (c :: s))) (out ++ [(0, n)]) := by rw [rdI, if_neg h, if_neg h1, if_neg h2, if_neg h3, h4]
/-- an element, and what is left of the text: refused, or one more -/
theorem rdI_el {f : Nat} {c : UInt8} {s : List UInt8} {out : LT} (h : ¬ 400 < out.length) (h1 : c ≠ 40) (h2 : ¬ (c = 32 ∨ c = 41)) :
    ((elI (c :: s)).2.2 = 0 ∧ rdI (f + 1) (c :: s) out = []) ∨ (1 ≤ (elI (c :: s)).2.2 ∧ (elI (c :: s)).2.2 ≤ (c :: s).length ∧ rdI (f + 1) (c :: s) out = rdI f ((c :: s).drop (elI (c :: s)).2.2) (out ++ [((elI (c :: s)).1, (elI (c :: s)).2.1)])) := by
  by_cases h3 : c = 94
  · refine .inr ?_
    rw [elI, if_pos (by rw [h3]; rfl), rdI_abs h h1 h2 h3]
    exact ⟨Nat.le_refl _, by simp, rfl⟩
  · rw [elI, if_neg (by simpa using h3)]
    cases hn : numD ((c :: s).take (dgN (c :: s))) with
    | none => exact .inl ⟨rfl, rdI_no h h1 h2 h3 hn⟩
    | some v =>
      refine .inr ⟨?_, dgN_le _, rdI_num h h1 h2 h3 hn⟩
      rcases Nat.eq_zero_or_pos (dgN (c :: s)) with h0 | h0
      · rw [h0, List.take_zero] at hn; cases hn
      · exact h0
set_option maxHeartbeats 4000000 in
set_option maxRecDepth 100000 in
theorem readTermLam_c (s : List UInt8) (R : LT) (l : Nat) (w : World) (hs : s.length ≤ 1048576) (hL : LibS w) (hR : rdI s.length s [] = R) (hl : R.length = l) :
    Calls Tryz.prog 95 #[.string (bs s), .agg #[.int .i64 2, .int .i64 0], .func (.func 96) #[] #[], .int .i64 400] w (TmOut R l w) := by
  have HR := Lib.hid hR; have HRL := Lib.hid hl
  obtain ⟨w1, hw1⟩ : ∃ w1, w.alloc (.cells #[.int .i64 2, .int .i64 0] 62) = w1 := ⟨_, rfl⟩
  have E1 := Lib.hid (show Below w.heap.size w w1 by rw [← hw1]; exact below_size.alloc (Nat.le_refl _) _)
  have Z1 := Lib.hid (show Blk w1 w.heap.size 62 #[.int .i64 2, .int .i64 0] by rw [← hw1]; exact Blk.new _ _ _)
  have HL := Lib.hid (hL.below E1.out)
  have hz1 := E1.out.size
  have hzl := Z1.out.lt
  clear hR hl hL
  go_enter Tryz.func95, Tryz.ntmps95
  go_wp2_with fail
  go_loopw [0, 9] (fun sv ov wr => ∃ (r : List UInt8) (p oc f : Nat) (O : Option Addr) (out : LT), sv = .string (bs r) ∧ ov = .slice O p oc ∧ r.length ≤ f ∧ r.length ≤ 1048576 ∧ p ≤ 401 ∧ Hid (out.length = p) ∧ Hid (rdI f r out = R) ∧ Hid (Own wr w1.heap.size 62 2 O p oc (out.flatMap enc2)) ∧ Below w1.heap.size w1 wr) (fun sv _ _ => (match sv with | .string b => b.size | _ => 0))
  case atStart => exact ⟨s, 0, 0, s.length, _, [], rfl, rfl, Nat.le_refl _, hs, by omega, rfl, HR.out, Own.litK (Nat.le_refl _), below_size.alloc (Nat.le_refl _) _⟩
  case round =>
    obtain ⟨r, p, oc, f, O, out, rfl, rfl, hf, hs2, hp, hol, hr, hO, hb⟩ := hrel
    have HB := Lib.hid hb; have HOL := Lib.hid hol.out
    have hwz := hb.size
    have Zr := Lib.hid (Z1.out.keep hb)
    have Er := Lib.hid (E1.out.trans (hb.mono hz1))
    have hzr := Er.out.size
    have gs := bs_toListS r
    cases r with
    | nil =>
      have HG := Lib.hid (show out = R by rw [← hr.out, rdI_nil])
      clear hr hb
      go_wp2_with fail
      go_ret
      have hpl : p = l := by rw [← HOL.out, HG.out, HRL.out]
      subst hpl
      rw [← HG.out]
      exact ⟨O, oc, rfl, HOL.out, hO.out.wrK.wider hz1 (Nat.le_refl _), hO.out.cap, Er.out⟩
    | cons c r' =>
      have gn : (c :: r').isEmpty = false := rfl
      obtain ⟨x, hx⟩ : ∃ x : Int, (c.toNat : Int) = x := ⟨_, rfl⟩
      have hix : ∀ w, (Instr.index 9 (.string (bs (c :: r'))) (.int .i64 0)).run Tryz.prog w = .ok (.int .u8 x) w := fun w => run_ixS (k := 0) (s := c :: r') rfl hx w
      have hsl : ∀ w, (Instr.slice 9 (.string (bs (c :: r'))) (some (.int .i64 1)) none none).run Tryz.prog w = .ok (.string (bs r')) w := fun w => run_slF (c :: r') 1 (by simp) w
      rw [List.length_cons] at hf hs2
      obtain ⟨f', rfl⟩ : ∃ f', f = f' + 1 := ⟨f - 1, by omega⟩
      have hr2 := hr.out
      by_cases hp4 : 400 < p
      · have g4 : decide ((p : Int) ≤ 400) = false := decide_eq_false (by omega)
        have HG := Lib.hid (show out = R by rw [← hr2, rdI_full (by rw [HOL.out]; exact hp4)])
        clear hr hr2 hb hx hix hsl
        go_wp2_with fail
        go_ret
        have hpl : p = l := by rw [← HOL.out, HG.out, HRL.out]
        subst hpl
        rw [← HG.out]
        exact ⟨O, oc, rfl, HOL.out, hO.out.wrK.wider hz1 (Nat.le_refl _), hO.out.cap, Er.out⟩
      have g4 : decide ((p : Int) ≤ 400) = true := decide_eq_true (by omega)
      have HP4 := Lib.hid (show ¬ 400 < out.length by rw [HOL.out]; exact hp4)
      by_cases h40 : c = 40
      · have g1 : (x == 40) = true := by rw [beq_iff_eq, ← hx, h40]; rfl
        have HS := Lib.hid (show rdI f' r' (out ++ [(2, 0)]) = R by rw [← hr2, rdI_app HP4.out h40])
        have x0 := Ext.cell (Zr.out.cell 0); have x1 := Ext.cell (Zr.out.cell 1)
        simp at x0 x1
        clear hr hr2 hb hx h40
        go_wp2_with fail
        refine Mix.wp_region_mix [0, 3, 1, 2, 0, 0, 0, 0] (fun w' => ∃ x : Ext wr, w' = x.w) (by kernel_rfl) (by kernel_rfl) (InExt.drew _) ?_
        repeat (first | (refine Mix.wpMix_read (by rfl) ?_; go_big_quiet_step (fail); refine wpQuiet_nil ?_) | (refine Mix.wpMix_pure (by rfl) ?_; go_big_quiet_step (fail); refine wpQuiet_nil ?_))
        refine Mix.wpMix_chg (by rfl) (fun K hK => ?_)
        go_wp2_with fail
        refine hK _ _ ⟨⟨_, below_drew (below_size.alloc (Nat.le_refl _) _)⟩, rfl⟩ ?_
        clear hK K
        refine Mix.wpMix_tail (by rfl) (fun K hK => ?_)
        refine wp_appLam (by rfl) _ _ (by rfl) w1.heap.size O p oc _ (by rfl) (by exact (hO.out.alloc _).drew) (some ⟨wr.heap.size, 0, none⟩) 1 1 [(2, 0)] (by rfl) (by exact (show Rd2 (wr.alloc (.cells #[.int .i64 2, .int .i64 0] 62)) (some ⟨wr.heap.size, 0, none⟩) 1 [(2, 0)] from Rd2.lit rfl rfl)) (by omega) (by exact (HB.out.alloc hwz _).drew.size) ?_
        intro A1 c1 w3 own1 hb1 hk1 hg1 hz3
        have E3 := Lib.hid ((HB.out.alloc hwz _).drew.trans hb1); have O3 := Lib.hid own1
        clear own1 hb1 hk1 hg1 hz3
        go_wp2_with fail
        refine hK _ _ ?_
        clear hK K
        repeat (first | (refine Mix.wpMix_read (by rfl) ?_; go_big_quiet_step (fail); refine wpQuiet_nil ?_) | (refine Mix.wpMix_pure (by rfl) ?_; go_big_quiet_step (fail); refine wpQuiet_nil ?_))
        (refine Mix.wpMix_nil ?_; try simp only [Exit.then])
        go_wp2_with fail
        go_roundw
        case rel => exact ⟨r', p + 1, c1, f', A1, out ++ [(2, 0)], rfl, rfl, by omega, by omega, by omega, by unfold Hid; rw [List.length_append, HOL.out]; rfl, HS.out, by unfold Hid; rw [List.flatMap_append]; exact O3.out, E3.out⟩
        case measure => simp [bs_size]
      have g1 : (x == 40) = false := by rw [beq_eq_false_iff_ne, ← hx]; exact fun e => h40 (UInt8.toNat_inj.1 (by show c.toNat = 40; omega))
      by_cases h3 : c = 32 ∨ c = 41
      · have HS := Lib.hid (show rdI f' r' out = R by rw [← hr2, rdI_skip HP4.out h40 h3])
        by_cases h32 : c = 32
        · have g2 : (x == 32) = true := by rw [beq_iff_eq, ← hx, h32]; rfl
          clear hr hr2 hb hx h40 h3 h32
          go_wp2_with fail
          go_roundw
          case rel => exact ⟨r', p, oc, f', O, out, rfl, rfl, by omega, by omega, by omega, HOL.out, HS.out, hO.out, HB.out⟩
          case measure => simp [bs_size]
        · have h41 : c = 41 := h3.resolve_left h32
          have g2 : (x == 32) = false := by rw [beq_eq_false_iff_ne, ← hx]; exact fun e => h32 (UInt8.toNat_inj.1 (by show c.toNat = 32; omega))
          have g3 : (x == 41) = true := by rw [beq_iff_eq, ← hx, h41]; rfl
          clear hr hr2 hb hx h40 h3 h32 h41
          go_wp2_with fail
          go_roundw
          case rel => exact ⟨r', p, oc, f', O, out, rfl, rfl, by omega, by omega, by omega, HOL.out, HS.out, hO.out, HB.out⟩
          case measure => simp [bs_size]
      have g2 : (x == 32) = false := by rw [beq_eq_false_iff_ne, ← hx]; exact fun e => h3 (.inl (UInt8.toNat_inj.1 (by show c.toNat = 32; omega)))
      have g3 : (x == 41) = false := by rw [beq_eq_false_iff_ne, ← hx]; exact fun e => h3 (.inr (UInt8.toNat_inj.1 (by show c.toNat = 41; omega)))
      obtain ⟨⟨kd, v, k⟩, hel⟩ : ∃ z, elI (c :: r') = z := ⟨_, rfl⟩
      have hcase := rdI_el (f := f') (c := c) (s := r') HP4.out h40 h3
      rw [hr2, hel] at hcase
      simp only at hcase
      have HC := Lib.hid (fun (w : World) (hL : LibS w) => ReadLam1_c (c :: r') (kd, v, k) w (by simp; omega) (by simp) hL hel)
      have HLr := Lib.hid (HL.out.below HB.out)
      clear hr hr2 hx h40 h3 hel hsl
      rcases hcase with ⟨hk0, hRn⟩ | ⟨hk1, hkl, hRs⟩
      · have hk9 := hk0
        subst hk9
        have HG := Lib.hid hRn
        clear hRn hk0 hb
        go_wp2_with fail
        refine (HC.out _ HLr.out).mono ?_
        rintro e w3 ⟨rfl, hb3⟩
        have E3 := Lib.hid (Er.out.trans (hb3.mono hzr))
        clear hb3
        go_wp2_with fail
        go_ret
        have hl0 : l = 0 := by rw [← HRL.out, HG.out]; rfl
        subst hl0
        rw [HG.out]
        exact ⟨none, 0, rfl, rfl, Wr.nil, Nat.le_refl _, (E3.out.alloc E3.out.size _)⟩
      · obtain ⟨u, hu⟩ : ∃ u, (c :: r').drop k = u := ⟨_, rfl⟩
        have hsl := fun w => run_slF (c :: r') k hkl w
        rw [hu] at hsl hRs
        have hul : u.length + k = r'.length + 1 := by rw [← hu, List.length_drop, List.length_cons]; rw [List.length_cons] at hkl; omega
        have HS := Lib.hid hRs.symm
        have g5 : ((k : Int) == 0) = false := by rw [beq_eq_false_iff_ne]; omega
        have HUL := Lib.hid hul
        clear hRs hu hb hkl hul
        go_wp2_with fail
        refine (HC.out _ HLr.out).mono ?_
        rintro e w3 ⟨rfl, hb3⟩
        have E3 := Lib.hid (HB.out.trans (hb3.mono hwz)); have O3 := Lib.hid (hO.out.keep hb3); have hz3 := E3.out.size
        clear hb3
        obtain ⟨w4, hw4⟩ : ∃ w4, w3.alloc (.cells #[.int .i64 kd, .int .i64 v] 62) = w4 := ⟨_, rfl⟩
        have E4 := Lib.hid (show Below w1.heap.size w1 w4 by rw [← hw4]; exact E3.out.alloc hz3 _)
        have O4 := Lib.hid (show Own w4 w1.heap.size 62 2 O p oc (out.flatMap enc2) by rw [← hw4]; exact O3.out.alloc _)
        have hz4 := E4.out.size
        have x0 := Ext.cell (show w4.cell? ⟨w3.heap.size, 0, none⟩ = some (.int .i64 kd) by rw [← hw4]; exact new_cell _ _ _ 0)
        have x1 := Ext.cell (show w4.cell? ⟨w3.heap.size, 1, none⟩ = some (.int .i64 v) by rw [← hw4]; exact new_cell _ _ _ 1)
        go_wp2_with fail
        refine Mix.wp_region_mix [0, 3, 1, 2, 0, 0, 0, 0, 0] (fun w' => ∃ x : Ext w4, w' = x.w) (by kernel_rfl) (by kernel_rfl) (InExt.drew _) ?_
        repeat (first | (refine Mix.wpMix_read (by rfl) ?_; go_big_quiet_step (fail); refine wpQuiet_nil ?_) | (refine Mix.wpMix_pure (by rfl) ?_; go_big_quiet_step (fail); refine wpQuiet_nil ?_))
        refine Mix.wpMix_chg (by rfl) (fun K hK => ?_)
        go_wp2_with fail
        refine hK _ _ ⟨⟨_, below_drew (below_size.alloc (Nat.le_refl _) _)⟩, rfl⟩ ?_
        clear hK K
        refine Mix.wpMix_tail (by rfl) (fun K hK => ?_)
        refine wp_appLam (by rfl) _ _ (by rfl) w1.heap.size O p oc _ (by rfl) (by exact (O4.out.alloc _).drew) (some ⟨w4.heap.size, 0, none⟩) 1 1 [(kd, v)] (by rfl) (by exact (show Rd2 (w4.alloc (.cells #[.int .i64 kd, .int .i64 v] 62)) (some ⟨w4.heap.size, 0, none⟩) 1 [(kd, v)] from Rd2.lit rfl rfl)) (by omega) (by exact (E4.out.alloc hz4 _).drew.size) ?_
        intro A1 c1 w5 own1 hb1 hk1' hg1 hz5
        have E5 := Lib.hid ((E4.out.alloc hz4 _).drew.trans hb1); have O5 := Lib.hid own1
        clear own1 hb1 hk1' hg1 hz5
        go_wp2_with fail
        refine hK _ _ ?_
        clear hK K
        repeat (first | (refine Mix.wpMix_read (by rfl) ?_; go_big_quiet_step (fail); refine wpQuiet_nil ?_) | (refine Mix.wpMix_pure (by rfl) ?_; go_big_quiet_step (fail); refine wpQuiet_nil ?_))
        (refine Mix.wpMix_nil ?_; try simp only [Exit.then])
        go_wp2_with fail
        go_roundw
        case rel => exact ⟨u, p + 1, c1, f', A1, out ++ [(kd, v)], rfl, rfl, by have := HUL.out; omega, by have := HUL.out; omega, by omega, by unfold Hid; rw [List.length_append, HOL.out]; rfl, HS.out, by unfold Hid; rw [List.flatMap_append]; exact O5.out, E5.out⟩
        case measure => have := HUL.out; simp [bs_size]; omega
set_option maxHeartbeats 1000000 in
theorem ReadLam_c (tx : List UInt8) (t : LT) (n : Nat) (w : World) (hL : LibS w) (hs : tx.length ≤ 90000) (hr : rdI tx.length tx [] = t) (hv : validL t = true) (htx : TxT t tx) (hn : t.length = n) :
    Calls Tryz.prog 55 #[.string (bs tx)] w fun e w' => ∃ A c, e = .returned (.tuple #[.slice A n c, .bool true]) ∧ Wr w' w.heap.size w'.heap.size A (n * 2) (t.flatMap enc2) ∧ n ≤ c ∧ Below w.heap.size w w' := by
  have HC := Lib.hid (readTermLam_c tx t n w (by omega) hL hr hn)
  have HL := Lib.hid hL; have HV := Lib.hid hv; have HX := Lib.hid htx
  have hn4 : n ≤ 400 := by rw [← hn]; exact (validL_end hv).2.2
  have gs := bs_toListS tx
  clear hL hr hv htx hn
  go_enter Tryz.func55, Tryz.ntmps55
  go_wp2_with fail
  refine HC.out.mono ?_
  rintro e w1 ⟨A1, c1, rfl, hl1, hw1, hc1, hb1⟩
  have B1 := Lib.hid hb1; have W1 := Lib.hid hw1; have C1 := Lib.hid hc1; have R1 := Lib.hid (show Rd2 w1 A1 n t from hw1.rd)
  have hz1 := hb1.size
  clear hl1 hw1 hc1 hb1
  go_wp2_with fail
  refine (validLam_c A1 n c1 t true w1 R1.out (by omega) HV.out).mono ?_
  rintro e w2 ⟨rfl, hb2⟩
  have B2 := Lib.hid (B1.out.trans (hb2.mono hz1)); have W2 := Lib.hid ((W1.out.below hb2).wider (Nat.le_refl _) hb2.size); have R2 := Lib.hid (R1.out.below hb2)
  clear hb2
  go_wp2_with fail
  refine (LamText_c A1 n c1 t tx w2 R2.out HV.out (HL.out.below B2.out).tab HX.out (by omega)).mono ?_
  rintro e w3 ⟨rfl, hb3⟩
  have B3 := Lib.hid (B2.out.trans (hb3.mono B2.out.size)); have W3 := Lib.hid ((W2.out.below hb3).wider (Nat.le_refl _) hb3.size)
  clear hb3
  go_wp2_with fail
  go_ret2
  exact ⟨A1, c1, rfl, W3.out, C1.out, B3.out⟩
set_option maxHeartbeats 1000000 in
theorem lamOf_c (tx : List UInt8) (t : LT) (n : Nat) (w : World) (hL : LibS w) (hs : tx.length ≤ 90000) (hr : rdI tx.length tx [] = t) (hv : validL t = true) (htx : TxT t tx) (hn : t.length = n) :
    Calls Tryz.prog 26 #[.string (bs tx)] w (TmOut t n w) := by
  have HC := Lib.hid (ReadLam_c tx t n w hL hs hr hv htx hn)
  have HN := Lib.hid hn
  clear hL hr hv htx hn
  go_enter Tryz.func26, Tryz.ntmps26
  go_wp2_with fail
  refine HC.out.mono ?_
  rintro e w1 ⟨A1, c1, rfl, hw1, hc1, hb1⟩
  have B1 := Lib.hid hb1; have W1 := Lib.hid hw1; have C1 := Lib.hid hc1
  clear hw1 hc1 hb1
  go_wp2_with fail
  go_ret
  exact ⟨A1, c1, rfl, HN.out, W1.out, C1.out, B1.out⟩
theorem lamOf_suc (w : World) (hL : LibS w) : Calls Tryz.prog 26 #[.string ⟨#[94, 94, 94, 40, 49, 32, 40, 40, 50, 32, 49, 41, 32, 48, 41, 41]⟩] w (TmOut sucLm 10 w) := lamOf_c sucTx sucLm 10 w hL (by decide) rdI_suc (by decide) tx_suc rfl
theorem lamOf_fal (w : World) (hL : LibS w) : Calls Tryz.prog 26 #[.string ⟨#[94, 94, 48]⟩] w (TmOut falLm 3 w) := lamOf_c falTx falLm 3 w hL (by decide) rdI_fal (by decide) tx_fal rfl
end Go.Proofs.YtebjpmmgdkepjaaGreatDoor
/-
  Functions as terms: the program's steps and loops of a term.
-/
namespace Go.Proofs.YtebjpmmgdkepjaaGreatDoor
open Go.RowKit

theorem applyLamT_c (A : Option Addr) (n c : Nat) (t : LT) (G : Option Addr) (m mc N : Nat) (ps : List Tm) (T : LT) (w : World) (h : Rd2 w A n t) (hG : RdV w 2 G m (ps.map Tm.it)) (hm : m ≤ 11) (hT : appLm t (ps.map Tm.t) = T) (hN : T.length = N) (hb : N ≤ 100000) :
    Calls Tryz.prog 31 #[.slice A n c, .slice G m mc] w (TmOut T N w) := by
  subst hT
  have h1 := h.len
  have h2 := itLen hG
  rw [appLm_len, List.length_map, h1, h2] at hN
  exact applyLam_c A n c t G m mc N ps w h hG hm (by omega) (by omega) hN
theorem abstractT_c (n : Nat) (A : Option Addr) (m c : Nat) (t U : LT) (w : World) (h : Rd2 w A m t) (hU : absLm n t = U) (hn : n ≤ 11) (hm : m ≤ 1000000) : Calls Tryz.prog 54 #[.int .i64 n, .slice A m c] w (TmOut U U.length w) := by
  subst hU
  rw [absLm_len, h.len]
  exact abstract_c n A m c t w h hn hm
theorem abstract1_c (A : Option Addr) (m c : Nat) (t U : LT) (w : World) (h : Rd2 w A m t) (hU : absLm 1 t = U) (hm : m ≤ 1000000) : Calls Tryz.prog 54 #[.int .i64 1, .slice A m c] w (TmOut U U.length w) := abstractT_c 1 A m c t U w h hU (by omega) hm
theorem abstract2_c (A : Option Addr) (m c : Nat) (t U : LT) (w : World) (h : Rd2 w A m t) (hU : absLm 2 t = U) (hm : m ≤ 1000000) : Calls Tryz.prog 54 #[.int .i64 2, .slice A m c] w (TmOut U U.length w) := abstractT_c 2 A m c t U w h hU (by omega) hm
theorem abstract3_c (A : Option Addr) (m c : Nat) (t U : LT) (w : World) (h : Rd2 w A m t) (hU : absLm 3 t = U) (hm : m ≤ 1000000) : Calls Tryz.prog 54 #[.int .i64 3, .slice A m c] w (TmOut U U.length w) := abstractT_c 3 A m c t U w h hU (by omega) hm
theorem variables00_c (n : Nat) (w : World) (hn : n ≤ 10) : Calls Tryz.prog 170 #[.int .i64 n, .int .i64 0, .int .i64 0] w (LsOut (vsLm n 0 0) n w) := variables_c 0 n 0 n w (by omega) (by omega) (by omega) (by omega)
theorem variables02_c (n : Nat) (w : World) (hn : n ≤ 10) : Calls Tryz.prog 170 #[.int .i64 n, .int .i64 0, .int .i64 2] w (LsOut (vsLm n 0 2) n w) := variables_c 0 n 2 n w (by omega) (by omega) (by omega) (by omega)
theorem variables13_c (n : Nat) (w : World) (hn : n ≤ 10) (h1 : 1 ≤ n) : Calls Tryz.prog 170 #[.int .i64 n, .int .i64 1, .int .i64 3] w (LsOut (vsLm n 1 3) (n - 1) w) := variables_c 1 n 3 (n - 1) w (by omega) (by omega) (by omega) (by omega)
theorem numeralLam0_c (w : World) : Calls Tryz.prog 25 #[.int .i64 0] w (TmOut (numLm 0) 3 w) := numeralLam_c 0 w (by omega)
set_option maxHeartbeats 4000000 in
set_option maxRecDepth 100000 in
theorem repeatStep_c (na : Nat) (A : Option Addr) (m c : Nat) (p T : LT) (w : World) (h : Rd2 w A m p) (hL : LibS w) (hT : stepLm na p = T) (h1 : 1 ≤ na) (h4 : na ≤ 4) (hm : m ≤ 400) :
    Calls Tryz.prog 171 #[.int .i64 na, .slice A m c] w (TmOut T T.length w) := by
  have H := Lib.hid h; have HL := Lib.hid hL
  obtain ⟨TK, hTK⟩ : ∃ T, appLm sucLm [varLm 1] = T := ⟨_, rfl⟩
  obtain ⟨TP, hTP⟩ : ∃ T, appLm p ([varLm 1, varLm 0] ++ vsLm na 1 3) = T := ⟨_, rfl⟩
  obtain ⟨TI, hTI⟩ : ∃ T, appLm (varLm 2) [TK, TP] = T := ⟨_, rfl⟩
  have hTA : absLm 3 TI = T := by rw [← hT, ← hTI, ← hTK, ← hTP]; rfl
  have hTb : T.length ≤ 3000 := by rw [← hT, stepLm_len, h.len]; omega
  have hTi : TI.length ≤ 3000 := by rw [← hTA, absLm_len] at hTb; omega
  have hTk : TK.length ≤ 3000 ∧ TP.length ≤ 3000 := by rw [← hTI, app2_len] at hTi; omega
  have HTK := Lib.hid hTK; have HTP := Lib.hid hTP; have HTI := Lib.hid hTI; have HTA := Lib.hid hTA
  have E0 := Lib.hid (below_size : Below w.heap.size w w)
  clear h hL hT hTK hTP hTI hTA
  go_enter Tryz.func171, Tryz.ntmps171
  go_wp2_with fail
  refine (lamVar_c (2) _).mono ?_
  rintro e wx1 ⟨rfl, hbx1⟩
  have DX1 := Lib.hid hbx1; have zx1 := hbx1.size
  obtain ⟨w1, hw1⟩ : ∃ w', wx1.alloc (.cells #[.int .i64 0, .int .i64 (2)] 62) = w' := ⟨_, rfl⟩
  have D1 := Lib.hid (show Below _ _ w1 by rw [← hw1]; exact DX1.out.alloc zx1 _)
  have E1 := Lib.hid (E0.out.trans (D1.out.mono E0.out.size))
  have R1 := Lib.hid (show Rd2 w1 (some ⟨wx1.heap.size, 0, none⟩) 1 (varLm (2)) by rw [← hw1]; exact Rd2.lit rfl rfl)
  clear hbx1
  go_wp2_with fail
  refine (lamVar_c (1) _).mono ?_
  rintro e wx2 ⟨rfl, hbx2⟩
  have DX2 := Lib.hid hbx2; have zx2 := hbx2.size
  obtain ⟨w2, hw2⟩ : ∃ w', wx2.alloc (.cells #[.int .i64 0, .int .i64 (1)] 62) = w' := ⟨_, rfl⟩
  have D2 := Lib.hid (show Below _ _ w2 by rw [← hw2]; exact DX2.out.alloc zx2 _)
  have E2 := Lib.hid (E1.out.trans (D2.out.mono E1.out.size))
  have R2 := Lib.hid (show Rd2 w2 (some ⟨wx2.heap.size, 0, none⟩) 1 (varLm (1)) by rw [← hw2]; exact Rd2.lit rfl rfl)
  clear hbx2
  go_wp2_with fail
  refine (lamVar_c (0) _).mono ?_
  rintro e wx3 ⟨rfl, hbx3⟩
  have DX3 := Lib.hid hbx3; have zx3 := hbx3.size
  obtain ⟨w3, hw3⟩ : ∃ w', wx3.alloc (.cells #[.int .i64 0, .int .i64 (0)] 62) = w' := ⟨_, rfl⟩
  have D3 := Lib.hid (show Below _ _ w3 by rw [← hw3]; exact DX3.out.alloc zx3 _)
  have E3 := Lib.hid (E2.out.trans (D3.out.mono E2.out.size))
  have R3 := Lib.hid (show Rd2 w3 (some ⟨wx3.heap.size, 0, none⟩) 1 (varLm (0)) by rw [← hw3]; exact Rd2.lit rfl rfl)
  clear hbx3
  have E3b := Lib.hid (E3.out.alloc E3.out.size (.cells #[.slice (some ⟨wx2.heap.size, 0, none⟩) 1 1, .slice (some ⟨wx3.heap.size, 0, none⟩) 1 1] 25))
  have V3 := Lib.hid (tm2 (ty := 25) (c1 := 1) (c2 := 1) (R2.out.below D3.out) R3.out)
  go_wp2_with fail
  refine (variables13_c na _ (by omega) h1).mono ?_
  rintro e w4 ⟨G, gc, qs, rfl, hl4, hm4, hb4⟩
  have D4 := Lib.hid hb4; have E4 := Lib.hid (E3b.out.trans (hb4.mono E3b.out.size)); have V4 := Lib.hid hl4.rdV; have V3b := Lib.hid (V3.out.below hb4)
  have HM4 := Lib.hid hm4
  clear hl4 hm4 hb4
  go_wp2_with (at_builtin; refine wp_appTmF (by rfl) _ _ (by rfl) (some ⟨w3.heap.size, 0, none⟩) 2 [⟨some ⟨wx2.heap.size, 0, none⟩, 1, varLm 1⟩, ⟨some ⟨wx3.heap.size, 0, none⟩, 1, varLm 0⟩] (by rfl) (by exact V3b.out) (by omega) G (na - 1) gc qs (by rfl) (by exact V4.out) (by omega) ?_; intro A5 c5 w5 h5 hb5; have D5 := Lib.hid hb5; have E5 := Lib.hid (E4.out.trans (hb5.mono E4.out.size)); have V5 := Lib.hid h5; have HT5 := Lib.hid (show appLm p (([⟨some ⟨wx2.heap.size, 0, none⟩, 1, varLm 1⟩, ⟨some ⟨wx3.heap.size, 0, none⟩, 1, varLm 0⟩] ++ qs : List Tm).map Tm.t) = TP by rw [List.map_append, HM4.out]; exact HTP.out); clear h5 hb5)
  go_wp2_with fail
  refine (lamOf_suc _ (HL.out.below E5.out)).mono ?_
  rintro e w6 ⟨A6, c6, rfl, hl6, hw6, hc6, hb6⟩
  have D6 := Lib.hid hb6; have E6 := Lib.hid ((E5.out).trans (hb6.mono (E5.out).size)); have R6 := Lib.hid (show Rd2 w6 A6 (10) (sucLm) from hw6.rd); have z6 := E6.out.size
  clear hl6 hw6 hc6 hb6
  have E6b := Lib.hid (E6.out.alloc E6.out.size (.cells #[.slice (some ⟨wx2.heap.size, 0, none⟩) 1 1] 25))
  have R2b := Lib.hid (((((R2.out.below D3.out).alloc (.cells #[.slice (some ⟨wx2.heap.size, 0, none⟩) 1 1, .slice (some ⟨wx3.heap.size, 0, none⟩) 1 1] 25)).below D4.out).below D5.out).below D6.out)
  go_wp2_with fail
  refine (applyLamT_c (A6) (10) (c6) (sucLm) (some ⟨w6.heap.size, 0, none⟩) (1) (1) TK.length ([⟨some ⟨wx2.heap.size, 0, none⟩, 1, varLm 1⟩]) TK _ (R6.out.alloc _) (tm1 R2b.out) (by omega) (HTK.out) rfl (by omega)).mono ?_
  rintro e w7 ⟨A7, c7, rfl, hl7, hw7, hc7, hb7⟩
  have D7 := Lib.hid hb7; have E7 := Lib.hid ((E6b.out).trans (hb7.mono (E6b.out).size)); have R7 := Lib.hid (show Rd2 w7 A7 (TK.length) (TK) from hw7.rd); have z7 := E7.out.size
  clear hl7 hw7 hc7 hb7
  have D7b := Lib.hid (show Below w6.heap.size w6 w7 from (below_size.alloc (Nat.le_refl _) _).trans (D7.out.mono (by simp)))
  go_wp2_with fail
  refine (applyLamT_c (A) (m) (c) (p) (A5) (2 + (na - 1)) (c5) TP.length (_) TP _ (H.out.below E7.out) ((V5.out.below D6.out).below D7b.out) (by omega) (HT5.out) rfl (by omega)).mono ?_
  rintro e w8 ⟨A8, c8, rfl, hl8, hw8, hc8, hb8⟩
  have D8 := Lib.hid hb8; have E8 := Lib.hid ((E7.out).trans (hb8.mono (E7.out).size)); have R8 := Lib.hid (show Rd2 w8 A8 (TP.length) (TP) from hw8.rd); have z8 := E8.out.size
  clear hl8 hw8 hc8 hb8
  have E8b := Lib.hid (E8.out.alloc E8.out.size (.cells #[.slice A7 TK.length c7, .slice A8 TP.length c8] 25))
  have R1b := Lib.hid ((((((((R1.out.below D2.out).below D3.out).alloc (.cells #[.slice (some ⟨wx2.heap.size, 0, none⟩) 1 1, .slice (some ⟨wx3.heap.size, 0, none⟩) 1 1] 25)).below D4.out).below D5.out).below D6.out).below D7b.out).below D8.out)
  go_wp2_with fail
  refine (applyLamT_c (some ⟨wx1.heap.size, 0, none⟩) (1) (1) (varLm 2) (some ⟨w8.heap.size, 0, none⟩) (2) (2) TI.length ([⟨A7, c7, TK⟩, ⟨A8, c8, TP⟩]) TI _ (R1b.out.alloc _) (tm2 (R7.out.below D8.out) R8.out) (by omega) (HTI.out) rfl (by omega)).mono ?_
  rintro e w9 ⟨A9, c9, rfl, hl9, hw9, hc9, hb9⟩
  have D9 := Lib.hid hb9; have E9 := Lib.hid ((E8b.out).trans (hb9.mono (E8b.out).size)); have R9 := Lib.hid (show Rd2 w9 A9 (TI.length) (TI) from hw9.rd); have z9 := E9.out.size
  clear hl9 hw9 hc9 hb9
  go_wp2_with fail
  refine (abstract3_c A9 TI.length c9 TI T _ R9.out HTA.out (by omega)).mono ?_
  rintro e w10 ⟨A10, c10, rfl, hl10, hw10, hc10, hb10⟩
  have W10 := Lib.hid (hw10.wider (lo' := w.heap.size) z9 (Nat.le_refl _)); have C10 := Lib.hid hc10; have E10 := Lib.hid (E9.out.trans (hb10.mono z9))
  clear hl10 hw10 hc10 hb10
  go_wp2_with fail
  go_ret
  exact ⟨A10, c10, rfl, rfl, W10.out, C10.out, E10.out⟩
set_option maxHeartbeats 4000000 in
set_option maxRecDepth 100000 in
theorem leastLoop_c (na : Nat) (A : Option Addr) (m c : Nat) (p T : LT) (w : World) (h : Rd2 w A m p) (hL : LibS w) (hT : loopLm na p = T) (h4 : na ≤ 4) (hm : m ≤ 400) :
    Calls Tryz.prog 172 #[.int .i64 na, .slice A m c] w (TmOut T T.length w) := by
  have H := Lib.hid h; have HL := Lib.hid hL
  obtain ⟨TV, hTV⟩ : ∃ T, appLm p (varLm 0 :: vsLm na 0 2) = T := ⟨_, rfl⟩
  obtain ⟨TN, hTN⟩ : ∃ T, appLm sucLm [varLm 1] = T := ⟨_, rfl⟩
  obtain ⟨TG, hTG⟩ : ∃ T, appLm (varLm 2) [varLm 2, TN] = T := ⟨_, rfl⟩
  obtain ⟨TH, hTH⟩ : ∃ T, absLm 1 TG = T := ⟨_, rfl⟩
  obtain ⟨TX, hTX⟩ : ∃ T, appLm TV [TH, varLm 0] = T := ⟨_, rfl⟩
  have hTW : absLm 2 TX = T := by rw [← hT, ← hTX, ← hTH, ← hTG, ← hTN, ← hTV]; rfl
  have hTb : T.length ≤ 3000 := by rw [← hT, loopLm_len, h.len]; omega
  have hTx : TX.length ≤ 3000 := by rw [← hTW, absLm_len] at hTb; omega
  have hTv : TV.length ≤ 3000 ∧ TH.length ≤ 3000 := by rw [← hTX, app2_len] at hTx; omega
  have hTg : TG.length ≤ 3000 := by have h9 := hTv.2; rw [← hTH, absLm_len] at h9; omega
  have hTn : TN.length ≤ 3000 := by rw [← hTG, app2_len] at hTg; omega
  have HTV := Lib.hid hTV; have HTN := Lib.hid hTN; have HTG := Lib.hid hTG; have HTH := Lib.hid hTH; have HTX := Lib.hid hTX; have HTW := Lib.hid hTW
  have E0 := Lib.hid (below_size : Below w.heap.size w w)
  clear h hL hT hTV hTN hTG hTH hTX hTW
  go_enter Tryz.func172, Tryz.ntmps172
  go_wp2_with fail
  refine (lamVar_c (0) _).mono ?_
  rintro e wx1 ⟨rfl, hbx1⟩
  have DX1 := Lib.hid hbx1; have zx1 := hbx1.size
  obtain ⟨w1, hw1⟩ : ∃ w', wx1.alloc (.cells #[.int .i64 0, .int .i64 (0)] 62) = w' := ⟨_, rfl⟩
  have D1 := Lib.hid (show Below _ _ w1 by rw [← hw1]; exact DX1.out.alloc zx1 _)
  have E1 := Lib.hid (E0.out.trans (D1.out.mono E0.out.size))
  have R1 := Lib.hid (show Rd2 w1 (some ⟨wx1.heap.size, 0, none⟩) 1 (varLm (0)) by rw [← hw1]; exact Rd2.lit rfl rfl)
  clear hbx1
  have E1b := Lib.hid (E1.out.alloc E1.out.size (.cells #[.slice (some ⟨wx1.heap.size, 0, none⟩) 1 1] 25))
  have V1 := Lib.hid (tm1 (ty := 25) (c := 1) R1.out)
  go_wp2_with fail
  refine (variables02_c na _ (by omega)).mono ?_
  rintro e w4 ⟨G, gc, qs, rfl, hl4, hm4, hb4⟩
  have D4 := Lib.hid hb4; have E4 := Lib.hid (E1b.out.trans (hb4.mono E1b.out.size)); have V4 := Lib.hid hl4.rdV; have V1b := Lib.hid (V1.out.below hb4)
  have HM4 := Lib.hid hm4; have R1c := Lib.hid ((R1.out.alloc (.cells #[.slice (some ⟨wx1.heap.size, 0, none⟩) 1 1] 25)).below hb4)
  clear hl4 hm4 hb4
  go_wp2_with (at_builtin; refine wp_appTmF (by rfl) _ _ (by rfl) (some ⟨w1.heap.size, 0, none⟩) 1 [⟨some ⟨wx1.heap.size, 0, none⟩, 1, varLm 0⟩] (by rfl) (by exact V1b.out) (by omega) G na gc qs (by rfl) (by exact V4.out) (by omega) ?_; intro A5 c5 w5 h5 hb5; have D5 := Lib.hid hb5; have E5 := Lib.hid (E4.out.trans (hb5.mono E4.out.size)); have V5 := Lib.hid h5; have HT5 := Lib.hid (show appLm p (([⟨some ⟨wx1.heap.size, 0, none⟩, 1, varLm 0⟩] ++ qs : List Tm).map Tm.t) = TV by rw [List.map_append, HM4.out]; exact HTV.out); have R1d := Lib.hid (R1c.out.below hb5); clear h5 hb5)
  go_wp2_with fail
  refine (lamVar_c (2) _).mono ?_
  rintro e wx6 ⟨rfl, hbx6⟩
  have DX6 := Lib.hid hbx6; have zx6 := hbx6.size
  obtain ⟨w6, hw6⟩ : ∃ w', wx6.alloc (.cells #[.int .i64 0, .int .i64 (2)] 62) = w' := ⟨_, rfl⟩
  have D6 := Lib.hid (show Below _ _ w6 by rw [← hw6]; exact DX6.out.alloc zx6 _)
  have E6 := Lib.hid (E5.out.trans (D6.out.mono E5.out.size))
  have R6 := Lib.hid (show Rd2 w6 (some ⟨wx6.heap.size, 0, none⟩) 1 (varLm (2)) by rw [← hw6]; exact Rd2.lit rfl rfl)
  clear hbx6
  go_wp2_with fail
  refine (lamOf_suc _ (HL.out.below E6.out)).mono ?_
  rintro e w7 ⟨A7, c7, rfl, hl7, hw7, hc7, hb7⟩
  have D7 := Lib.hid hb7; have E7 := Lib.hid ((E6.out).trans (hb7.mono (E6.out).size)); have R7 := Lib.hid (show Rd2 w7 A7 (10) (sucLm) from hw7.rd); have z7 := E7.out.size
  clear hl7 hw7 hc7 hb7
  go_wp2_with fail
  refine (lamVar_c (1) _).mono ?_
  rintro e wx8 ⟨rfl, hbx8⟩
  have DX8 := Lib.hid hbx8; have zx8 := hbx8.size
  obtain ⟨w8, hw8⟩ : ∃ w', wx8.alloc (.cells #[.int .i64 0, .int .i64 (1)] 62) = w' := ⟨_, rfl⟩
  have D8 := Lib.hid (show Below _ _ w8 by rw [← hw8]; exact DX8.out.alloc zx8 _)
  have E8 := Lib.hid (E7.out.trans (D8.out.mono E7.out.size))
  have R8 := Lib.hid (show Rd2 w8 (some ⟨wx8.heap.size, 0, none⟩) 1 (varLm (1)) by rw [← hw8]; exact Rd2.lit rfl rfl)
  clear hbx8
  have E8b := Lib.hid (E8.out.alloc E8.out.size (.cells #[.slice (some ⟨wx8.heap.size, 0, none⟩) 1 1] 25))
  go_wp2_with fail
  refine (applyLamT_c (A7) (10) (c7) (sucLm) (some ⟨w8.heap.size, 0, none⟩) (1) (1) TN.length ([⟨some ⟨wx8.heap.size, 0, none⟩, 1, varLm 1⟩]) TN _ ((R7.out.below D8.out).alloc _) (tm1 R8.out) (by omega) (HTN.out) rfl (by omega)).mono ?_
  rintro e w9 ⟨A9, c9, rfl, hl9, hw9, hc9, hb9⟩
  have D9 := Lib.hid hb9; have E9 := Lib.hid ((E8b.out).trans (hb9.mono (E8b.out).size)); have R9 := Lib.hid (show Rd2 w9 A9 (TN.length) (TN) from hw9.rd); have z9 := E9.out.size
  clear hl9 hw9 hc9 hb9
  have F8 := Lib.hid (show Below w8.heap.size w8 w9 from (below_size.alloc (Nat.le_refl _) _).trans (D9.out.mono (by simp)))
  have E9b := Lib.hid (E9.out.alloc E9.out.size (.cells #[.slice (some ⟨wx6.heap.size, 0, none⟩) 1 1, .slice A9 TN.length c9] 25))
  have R6b := Lib.hid (((R6.out.below D7.out).below D8.out).below F8.out)
  go_wp2_with fail
  refine (applyLamT_c (some ⟨wx6.heap.size, 0, none⟩) (1) (1) (varLm 2) (some ⟨w9.heap.size, 0, none⟩) (2) (2) TG.length ([⟨some ⟨wx6.heap.size, 0, none⟩, 1, varLm 2⟩, ⟨A9, c9, TN⟩]) TG _ (R6b.out.alloc _) (tm2 R6b.out R9.out) (by omega) (HTG.out) rfl (by omega)).mono ?_
  rintro e w10 ⟨A10, c10, rfl, hl10, hw10, hc10, hb10⟩
  have D10 := Lib.hid hb10; have E10 := Lib.hid ((E9b.out).trans (hb10.mono (E9b.out).size)); have R10 := Lib.hid (show Rd2 w10 A10 (TG.length) (TG) from hw10.rd); have z10 := E10.out.size
  clear hl10 hw10 hc10 hb10
  have F9 := Lib.hid (show Below w9.heap.size w9 w10 from (below_size.alloc (Nat.le_refl _) _).trans (D10.out.mono (by simp)))
  go_wp2_with fail
  refine (abstract1_c A10 TG.length c10 TG TH _ R10.out HTH.out (by omega)).mono ?_
  rintro e w11 ⟨A11, c11, rfl, hl11, hw11, hc11, hb11⟩
  have D11 := Lib.hid hb11; have E11 := Lib.hid ((E10.out).trans (hb11.mono (E10.out).size)); have R11 := Lib.hid (show Rd2 w11 A11 (TH.length) (TH) from hw11.rd); have z11 := E11.out.size
  clear hl11 hw11 hc11 hb11
  have V5b := Lib.hid ((((((V5.out.below D6.out).below D7.out).below D8.out).below F8.out).below F9.out).below D11.out)
  go_wp2_with fail
  refine (applyLamT_c (A) (m) (c) (p) (A5) (1 + na) (c5) TV.length (_) TV _ (H.out.below E11.out) (V5b.out) (by omega) (HT5.out) rfl (by omega)).mono ?_
  rintro e w12 ⟨A12, c12, rfl, hl12, hw12, hc12, hb12⟩
  have D12 := Lib.hid hb12; have E12 := Lib.hid ((E11.out).trans (hb12.mono (E11.out).size)); have R12 := Lib.hid (show Rd2 w12 A12 (TV.length) (TV) from hw12.rd); have z12 := E12.out.size
  clear hl12 hw12 hc12 hb12
  have R1e := Lib.hid (((((((R1d.out.below D6.out).below D7.out).below D8.out).below F8.out).below F9.out).below D11.out).below D12.out)
  have E12b := Lib.hid (E12.out.alloc E12.out.size (.cells #[.slice A11 TH.length c11, .slice (some ⟨wx1.heap.size, 0, none⟩) 1 1] 25))
  go_wp2_with fail
  refine (applyLamT_c (A12) (TV.length) (c12) (TV) (some ⟨w12.heap.size, 0, none⟩) (2) (2) TX.length ([⟨A11, c11, TH⟩, ⟨some ⟨wx1.heap.size, 0, none⟩, 1, varLm 0⟩]) TX _ (R12.out.alloc _) (tm2 (R11.out.below D12.out) R1e.out) (by omega) (HTX.out) rfl (by omega)).mono ?_
  rintro e w13 ⟨A13, c13, rfl, hl13, hw13, hc13, hb13⟩
  have D13 := Lib.hid hb13; have E13 := Lib.hid ((E12b.out).trans (hb13.mono (E12b.out).size)); have R13 := Lib.hid (show Rd2 w13 A13 (TX.length) (TX) from hw13.rd); have z13 := E13.out.size
  clear hl13 hw13 hc13 hb13
  go_wp2_with fail
  refine (abstract2_c A13 TX.length c13 TX T _ R13.out HTW.out (by omega)).mono ?_
  rintro e w14 ⟨A14, c14, rfl, hl14, hw14, hc14, hb14⟩
  have W14 := Lib.hid (hw14.wider (lo' := w.heap.size) z13 (Nat.le_refl _)); have C14 := Lib.hid hc14; have E14 := Lib.hid (E13.out.trans (hb14.mono z13))
  clear hl14 hw14 hc14 hb14
  go_wp2_with fail
  go_ret
  exact ⟨A14, c14, rfl, rfl, W14.out, C14.out, E14.out⟩
end Go.Proofs.YtebjpmmgdkepjaaGreatDoor
