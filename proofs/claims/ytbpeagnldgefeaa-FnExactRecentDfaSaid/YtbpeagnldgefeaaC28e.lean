/-
  Contracts of chapter 28 (automata): RecentDfa.
-/
import Derived.Test.YtbpeagnldgefeaaC28
import Derived.Test.YtbpeagnldgefeaaApp
namespace Go.Proofs.Ytbpeagnldgefeaa
open Go.RowKit

def powF (sym : Int) : Nat → Int → Option Int
  | 0, s => some s
  | k + 1, s => if 20 < s * sym then none else powF sym k (s * sym)
def recL (s : Int) (j : Nat) : List Int := (List.range j).map fun (i : Nat) => (i : Int) % s
theorem recL_succ (s : Int) (j : Nat) : recL s (j + 1) = recL s j ++ [(j : Int) % s] := by simp [recL, List.range_succ]
theorem recL_len (s : Int) (j : Nat) : (recL s j).length = j := by simp [recL]
def recR (sym k : Int) : (Int × List Int) × Int :=
  if inB sym 2 6 then (if inB k 0 20 then (match powF sym k.toNat 1 with | none => ((0, []), 5) | some s => ((s, recL s (s * sym).toNat), 0)) else ((0, []), 2)) else ((0, []), 1)
theorem sym_bd {s sym : Int} (h1 : 2 ≤ sym ∧ sym ≤ 6) (h2 : 1 ≤ s ∧ s ≤ 20) : 1 ≤ s * sym ∧ s * sym ≤ 120 := by have := mul_bd h1 h2; omega

set_option maxHeartbeats 2000000 in
theorem iRecentDfa_c (sym k : Int) (w : World) :
    Calls Try.prog 23 #[.int .i64 sym, .int .i64 k] w (DfaOut (recR sym k) w) := by
  cases hb1 : inB sym 2 6
  · have HR := Lib.hid (show recR sym k = ((0, []), 1) by simp [recR, hb1])
    go_enter Try.func23, Try.ntmps23
    go_wp2_with (go_at_call 60; refine (symbolsOk_b _ _ (by assumption) _).mono ?_; rintro e w' ⟨rfl, rfl⟩)
    exact bodyPost_ret (v := .tuple #[.agg #[.int .i64 0, .slice none 0 0], .int .i64 1]) (by simp [results, Try.results23, go_sem]) rfl ⟨none, 0, 0, by rw [HR.out], by rw [HR.out]; exact Wr.nil, by omega, below_size.alloc (Nat.le_refl _) _⟩
  cases hb2 : inB k 0 20
  · have HR := Lib.hid (show recR sym k = ((0, []), 2) by simp [recR, hb1, hb2])
    go_enter Try.func23, Try.ntmps23
    go_wp2_with (first | (go_at_call 60; refine (symbolsOk_b _ _ (by assumption) _).mono ?_; rintro e w' ⟨rfl, rfl⟩) | (go_at_call 56; refine (within_b _ _ _ _ (by assumption) _).mono ?_; rintro e w' ⟨rfl, rfl⟩))
    exact bodyPost_ret (v := .tuple #[.agg #[.int .i64 0, .slice none 0 0], .int .i64 2]) (by simp [results, Try.results23, go_sem]) rfl ⟨none, 0, 0, by rw [HR.out], by rw [HR.out]; exact Wr.nil, by omega, below_size.alloc (Nat.le_refl _) _⟩
  have hsy := inB_t hb1
  obtain ⟨kn, rfl⟩ := Int.eq_ofNat_of_zero_le (inB_t hb2).1
  have hk20 : kn ≤ 20 := by have := (inB_t hb2).2; omega
  have HR := Lib.hid (show recR sym kn = (match powF sym kn 1 with | none => ((0, []), 5) | some s => ((s, recL s (s * sym).toNat), 0)) by simp [recR, hb1, hb2])
  go_enter Try.func23, Try.ntmps23
  go_wp2_with (first | (go_at_call 60; refine (symbolsOk_b _ _ (by assumption) _).mono ?_; rintro e w' ⟨rfl, rfl⟩) | (go_at_call 56; refine (within_b _ _ _ _ (by assumption) _).mono ?_; rintro e w' ⟨rfl, rfl⟩))
  go_loopw [18] (fun i wr => ∃ (j : Nat) (s : Int), j ≤ kn ∧ i = .int .i64 j ∧ 1 ≤ s ∧ s ≤ 20 ∧ Hid (powF sym kn 1 = powF sym (kn - j) s) ∧
    Blk wr w.heap.size 29 #[.int .i64 0, .slice none 0 0] ∧ Blk wr (w.heap.size + 1) 29 #[.int .i64 s, .slice none 0 0] ∧ Below w.heap.size w wr) (fun i _ => kn - (intOf i).toNat)
  case atStart =>
    refine ⟨0, 1, by omega, rfl, by omega, by omega, rfl, (Blk.new w _ _).alloc _, ?_, (below_size.alloc (Nat.le_refl _) _).alloc (by simp) _⟩
    have := Blk.new (w.alloc (.cells #[.int .i64 0, .slice none 0 0] 29)) 29 #[.int .i64 1, .slice none 0 0]
    simpa only [World.size_alloc] using this
  case round =>
    obtain ⟨j, s, hj, rfl, hs1, hs2, hr, b0, b1, hb⟩ := hrel
    have B0 := Lib.hid b0; have B1 := Lib.hid b1; have HB := Lib.hid hb
    have hmul := sym_bd hsy ⟨hs1, hs2⟩
    have d0 := B1.out.cell 0; have g0 := B1.out.frozen 0; have d1 := B1.out.cell 1; have g1 := B1.out.frozen 1
    have c0 := B0.out.cell 0; have c1 := B0.out.cell 1; have f0 := B0.out.frozen 0; have f1 := B0.out.frozen 1
    simp at d0 d1 c0 c1
    clear b0 b1 hb
    by_cases hlt : j < kn
    · by_cases hbig : 20 < s * sym
      · have HF := Lib.hid (show powF sym kn 1 = none by rw [hr.out, show kn - j = (kn - (j + 1)) + 1 by omega, powF, if_pos hbig])
        go_wp2
        refine bodyPost_ret (v := .tuple #[.agg #[.int .i64 0, .slice none 0 0], .int .i64 5]) (by simp [results, Try.results23, go_sem, c0, c1]) rfl ⟨none, 0, 0, by rw [HR.out, HF.out], by rw [HR.out, HF.out]; exact Wr.nil, by omega, ((HB.out.setCell (by simp) _).setCell (by simp) _).setCell (by simp) _⟩
      · have HF := Lib.hid (show powF sym kn 1 = powF sym (kn - (j + 1)) (s * sym) by rw [hr.out, show kn - j = (kn - (j + 1)) + 1 by omega, powF, if_neg hbig])
        go_wp2
        go_roundw
        case rel => exact ⟨j + 1, s * sym, by omega, by go_num, by omega, by omega, HF.out, B0.out.far (by simp) _, by have := B1.out.set_ 0 (i64 (s * sym)); simpa using this, HB.out.setCell (by simp) _⟩
        case measure => simp [intOf]; omega
    · obtain ⟨N, hN⟩ := Int.eq_ofNat_of_zero_le (show 0 ≤ s * sym by omega)
      have HF := Lib.hid (show recR sym kn = ((s, recL s N), 0) by rw [HR.out, hr.out, show kn - j = 0 by omega]; simp [powF, hN])
      have hN1 : N ≤ 120 := by omega
      clear hr
      go_wp2
      clear c0 c1 f0 f1 d0 d1 g0 g1
      go_loopw [34] (fun i wr => ∃ (q : Nat) (A : Option Addr) (c : Nat), q ≤ N ∧ i = .int .i64 q ∧
        Blk wr w.heap.size 29 #[.int .i64 0, .slice none 0 0] ∧ Blk wr (w.heap.size + 1) 29 #[.int .i64 s, .slice A q c] ∧ Own wr (w.heap.size + 1 + 1) 2 1 A q c ((recL s q).map i64) ∧ Below w.heap.size w wr) (fun i _ => N - (intOf i).toNat)
      case atStart => exact ⟨0, none, 0, by omega, rfl, B0.out, B1.out, Own.nil, HB.out⟩
      case round =>
        clear B0 B1 HB
        obtain ⟨q, A, c, hq, rfl, b0, b1, own, hb⟩ := hrel
        have B0 := Lib.hid b0; have B1 := Lib.hid b1; have HB := Lib.hid hb; have HO := Lib.hid own
        have hz := b1.lt
        have d0 := b1.cell 0; have d1 := b1.cell 1
        simp at d0 d1
        by_cases hlt : q < N
        · have x0 := Ext.cell d0; have x1 := Ext.cell d1
          clear b0 b1 hb own
          go_wp2
          refine Mix.wp_region_mix [0, 3, 0, 0, 3, 0, 1, 2, 0, 2] (fun w' => ∃ x : Ext wr, w' = x.w) (by kernel_rfl) (by kernel_rfl) (InExt.drew _) ?_
          repeat (first | (refine Mix.wpMix_read (by rfl) ?_; go_big_quiet_step (fail); refine wpQuiet_nil ?_) | (refine Mix.wpMix_pure (by rfl) ?_; go_big_quiet_step (fail); refine wpQuiet_nil ?_))
          refine Mix.wpMix_chg (by rfl) (fun K hK => ?_)
          go_wp2_with fail
          refine hK _ _ ⟨⟨_, below_drew (below_size.alloc (Nat.le_refl _) _)⟩, rfl⟩ ?_
          clear hK K
          refine Mix.wpMix_tail (by rfl) (fun K hK => ?_)
          refine wp_app1 (by rfl) _ _ 24 2 (.int .i64 0) 8 (by rfl) Try.underlying24 info_i64 rfl (w.heap.size + 1 + 1) A q c ((recL s q).map i64) (by rfl) (by exact (HO.out.alloc _).drew) wr.heap.size (i64 ((q : Int) % s)) (by rfl) (by exact new_cell _ _ _ 0) rfl (by omega) (by omega) (by simp; omega) ?_
          intro g' cap w2 own2 hb2 hk2 hg2 hz2
          have n0 : Blk w2 w.heap.size 29 #[.int .i64 0, .slice none 0 0] := (hk2 _ (by simp; omega) (fun ad ha => by have := (HO.out.block ha).1; omega)).trans (B0.out.alloc _)
          have n1 : Blk w2 (w.heap.size + 1) 29 #[.int .i64 s, .slice A q c] := (hk2 _ (by simp; omega) (fun ad ha => by have := (HO.out.block ha).1; omega)).trans (B1.out.alloc _)
          have N0 := Lib.hid n0; have N1 := Lib.hid n1; have O2 := Lib.hid own2; have HB2 := Lib.hid hb2; have HG := Lib.hid hg2
          have m1 := n1.cell 1; have f1 := n1.frozen 1
          simp at m1
          clear n0 n1 own2 hb2 hk2 hg2 d0 d1 x0 x1
          go_wp2_with fail
          refine hK _ _ ?_
          clear hK K
          repeat (first | (refine Mix.wpMix_read (by rfl) ?_; go_big_quiet_step (fail); refine wpQuiet_nil ?_) | (refine Mix.wpMix_pure (by rfl) ?_; go_big_quiet_step (fail); refine wpQuiet_nil ?_))
          refine Mix.wpMix_tail (by rfl) (fun K hK => ?_)
          go_wp2_with fail
          refine hK _ _ ?_
          clear hK K
          (refine Mix.wpMix_nil ?_; try simp only [Exit.then])
          go_wp2
          go_roundw
          case rel =>
            refine ⟨q + 1, some ⟨g', 0, none⟩, cap, by omega, by go_num, N0.out.far (by simp) _, ?_, ?_, ?_⟩
            · have := N1.out.set_ 1 (.slice (some ⟨g', 0, none⟩) (q + 1) cap); simpa using this
            · have h := O2.out
              rw [recL_succ, List.map_append]
              refine h.far (fun ad ha => ?_) _
              have := (h.block ha).1
              simp; omega
            · refine Below.setCell (Below.trans HB.out ?_) (by simp) _
              exact (below_drew ((Below.refl _ _).alloc (by omega) _)).trans (HB2.out.mono (by omega))
          case measure => simp [intOf]; omega
        · have HQ := Lib.hid (show q = N by omega)
          have c0 := b0.cell 0; have c1 := b0.cell 1; have f0 := b0.frozen 0; have f1 := b0.frozen 1
          simp at c0 c1
          clear b0 b1 hb own
          go_wp2
          refine bodyPost_ret (v := .tuple #[.agg #[.int .i64 s, .slice A q c], .int .i64 0]) (by simp [results, Try.results23, go_sem, c0, c1]) rfl ⟨A, q, c, by rw [HF.out], ?_, by omega, (HB.out.setCell (by simp) _).setCell (by simp) _⟩
          rw [HF.out, ← HQ.out]
          exact ((HO.out.wr.set_far (.inl (by simp; omega)) _).set_far (.inl (by simp; omega)) _).wider (by omega) (by simp)

theorem recL_succ2 (s : Int) (p m t : Nat) : recL s (p * m + t + 1) = recL s (p * m + t) ++ [((p : Int) * (m : Int) + (t : Int)) % s] := by
  rw [recL_succ, Int.natCast_add, Int.natCast_mul]
theorem pm_bd {p m : Nat} {s : Int} (h1 : (2 : Int) ≤ (m : Int) ∧ (m : Int) ≤ 6) (h2 : 1 ≤ s ∧ s ≤ 20) (h : (p : Int) < s) : 0 ≤ (p : Int) * (m : Int) ∧ (p : Int) * (m : Int) ≤ 114 ∧ p * m ≤ 114 := by
  have a := Int.mul_le_mul (a := (p : Int)) (b := (m : Int)) (c := 19) (d := 6) (by omega) (by omega) (by omega) (by omega)
  have b := Int.mul_nonneg (Int.natCast_nonneg p) (Int.natCast_nonneg m)
  refine ⟨b, by omega, ?_⟩
  have : ((p * m : Nat) : Int) ≤ 114 := by rw [Int.natCast_mul]; omega
  omega

set_option maxHeartbeats 4000000 in
theorem sRecentDfa_c (sym k : Int) (w : World) :
    Calls Try.prog 22 #[.int .i64 sym, .int .i64 k] w (DfaOut (recR sym k) w) := by
  cases hb1 : inB sym 2 6
  · have HR := Lib.hid (show recR sym k = ((0, []), 1) by simp [recR, hb1])
    go_enter Try.func22, Try.ntmps22
    go_wp2_with (go_at_call 54; refine (l00In_b _ _ _ _ (by assumption) _).mono ?_; rintro e w' ⟨rfl, rfl⟩)
    exact bodyPost_ret (v := .tuple #[.agg #[.int .i64 0, .slice none 0 0], .int .i64 1]) (by simp [results, Try.results22, go_sem]) rfl ⟨none, 0, 0, by rw [HR.out], by rw [HR.out]; exact Wr.nil, by omega, below_size.alloc (Nat.le_refl _) _⟩
  cases hb2 : inB k 0 20
  · have HR := Lib.hid (show recR sym k = ((0, []), 2) by simp [recR, hb1, hb2])
    go_enter Try.func22, Try.ntmps22
    go_wp2_with (go_at_call 54; refine (l00In_b _ _ _ _ (by assumption) _).mono ?_; rintro e w' ⟨rfl, rfl⟩)
    exact bodyPost_ret (v := .tuple #[.agg #[.int .i64 0, .slice none 0 0], .int .i64 2]) (by simp [results, Try.results22, go_sem]) rfl ⟨none, 0, 0, by rw [HR.out], by rw [HR.out]; exact Wr.nil, by omega, below_size.alloc (Nat.le_refl _) _⟩
  have hsy := inB_t hb1
  obtain ⟨m, rfl⟩ := Int.eq_ofNat_of_zero_le (show 0 ≤ sym by omega)
  obtain ⟨kn, rfl⟩ := Int.eq_ofNat_of_zero_le (inB_t hb2).1
  have hk20 : kn ≤ 20 := by have := (inB_t hb2).2; omega
  have HR := Lib.hid (show recR m kn = (match powF m kn 1 with | none => ((0, []), 5) | some s => ((s, recL s (s * m).toNat), 0)) by simp [recR, hb1, hb2])
  go_enter Try.func22, Try.ntmps22
  go_wp2_with (go_at_call 54; refine (l00In_b _ _ _ _ (by assumption) _).mono ?_; rintro e w' ⟨rfl, rfl⟩)
  go_loopw [1] (fun i wr => ∃ (j : Nat) (s : Int), j ≤ kn ∧ i = .int .i64 j ∧ 1 ≤ s ∧ s ≤ 20 ∧ Hid (powF m kn 1 = powF m j s) ∧
    Blk wr w.heap.size 29 #[.int .i64 0, .slice none 0 0] ∧ Blk wr (w.heap.size + 1) 29 #[.int .i64 s, .slice none 0 0] ∧ Below w.heap.size w wr) (fun i _ => (intOf i).toNat)
  case atStart =>
    refine ⟨kn, 1, by omega, rfl, by omega, by omega, rfl, (Blk.new w _ _).alloc _, ?_, (below_size.alloc (Nat.le_refl _) _).alloc (by simp) _⟩
    have := Blk.new (w.alloc (.cells #[.int .i64 0, .slice none 0 0] 29)) 29 #[.int .i64 1, .slice none 0 0]
    simpa only [World.size_alloc] using this
  case round =>
    obtain ⟨j, s, hj, rfl, hs1, hs2, hr, b0, b1, hb⟩ := hrel
    have B0 := Lib.hid b0; have B1 := Lib.hid b1; have HB := Lib.hid hb
    have hmul := sym_bd hsy ⟨hs1, hs2⟩
    have d0 := B1.out.cell 0; have g0 := B1.out.frozen 0; have d1 := B1.out.cell 1; have g1 := B1.out.frozen 1
    have c0 := B0.out.cell 0; have c1 := B0.out.cell 1; have f0 := B0.out.frozen 0; have f1 := B0.out.frozen 1
    simp at d0 d1 c0 c1
    clear b0 b1 hb
    by_cases hj0 : 0 < j
    · by_cases hbig : 20 < s * (m : Int)
      · have HF := Lib.hid (show powF m kn 1 = none by rw [hr.out, show j = (j - 1) + 1 by omega, powF, if_pos hbig])
        go_wp2
        refine bodyPost_ret (v := .tuple #[.agg #[.int .i64 0, .slice none 0 0], .int .i64 5]) (by simp [results, Try.results22, go_sem, c0, c1]) rfl ⟨none, 0, 0, by rw [HR.out, HF.out], by rw [HR.out, HF.out]; exact Wr.nil, by omega, ((HB.out.setCell (by simp) _).setCell (by simp) _).setCell (by simp) _⟩
      · have HF := Lib.hid (show powF m kn 1 = powF m (j - 1) (s * m) by rw [hr.out, show powF m j s = powF m ((j - 1) + 1) s by rw [show (j - 1) + 1 = j by omega], powF, if_neg hbig])
        go_wp2
        go_roundw
        case rel => exact ⟨j - 1, s * m, by omega, by go_num, by omega, by omega, HF.out, B0.out.far (by simp) _, by have := B1.out.set_ 0 (i64 (s * m)); simpa using this, HB.out.setCell (by simp) _⟩
        case measure => simp [intOf]; omega
    · obtain ⟨S, hS⟩ := Int.eq_ofNat_of_zero_le (show 0 ≤ s by omega)
      have HF := Lib.hid (show recR m kn = ((s, recL s (S * m)), 0) by rw [HR.out, hr.out, show j = 0 by omega]; simp [powF, hS, ← Int.natCast_mul])
      have HS := Lib.hid hS
      have hS1 : S ≤ 20 := by omega
      clear hr hS
      go_wp2
      clear c0 c1 f0 f1 d0 d1 g0 g1
      go_loopw [7] (fun i wr => ∃ (p : Nat) (A : Option Addr) (c : Nat), p ≤ S ∧ i = .int .i64 p ∧
        Blk wr w.heap.size 29 #[.int .i64 0, .slice none 0 0] ∧ Blk wr (w.heap.size + 1) 29 #[.int .i64 s, .slice A (p * m) c] ∧ Own wr (w.heap.size + 1 + 1) 2 1 A (p * m) c ((recL s (p * m)).map i64) ∧ Below w.heap.size w wr) (fun i _ => S - (intOf i).toNat)
      case atStart => exact ⟨0, none, 0, by omega, rfl, B0.out, by rw [Nat.zero_mul]; exact B1.out, by rw [Nat.zero_mul]; exact Own.nil, HB.out⟩
      case round =>
        clear B0 B1 HB
        obtain ⟨p, A, c, hp, rfl, b0, b1, own, hb⟩ := hrel
        have B0 := Lib.hid b0; have B1 := Lib.hid b1; have HB := Lib.hid hb; have HO := Lib.hid own
        have hz := b1.lt
        have d0 := b1.cell 0
        simp at d0
        by_cases hlt : p < S
        · have hps : (p : Int) < s := by have := HS.out; omega
          have hpm := pm_bd hsy ⟨hs1, hs2⟩ hps
          clear b0 b1 hb own
          go_wp2
          clear d0
          obtain ⟨wo, rfl⟩ : ∃ wo : World, wo = wr := ⟨_, rfl⟩
          go_loopw [8] (fun i wr => ∃ (t : Nat) (A : Option Addr) (c : Nat), t ≤ m ∧ i = .int .i64 t ∧
            Blk wr w.heap.size 29 #[.int .i64 0, .slice none 0 0] ∧ Blk wr (w.heap.size + 1) 29 #[.int .i64 s, .slice A (p * m + t) c] ∧ Own wr (w.heap.size + 1 + 1) 2 1 A (p * m + t) c ((recL s (p * m + t)).map i64) ∧ Below w.heap.size w wr) (fun i _ => m - (intOf i).toNat)
          case atStart => exact ⟨0, A, c, by omega, rfl, B0.out, B1.out, HO.out, HB.out⟩
          case round =>
            clear B0 B1 HB HO
            obtain ⟨t, A, c, ht, rfl, b0, b1, own, hb⟩ := hrel
            have B0 := Lib.hid b0; have B1 := Lib.hid b1; have HB := Lib.hid hb; have HO := Lib.hid own
            have hz := b1.lt
            have d0 := b1.cell 0; have d1 := b1.cell 1
            simp at d0 d1
            by_cases htl : t < m
            · have x0 := Ext.cell d0; have x1 := Ext.cell d1
              clear b0 b1 hb own
              go_wp2
              refine Mix.wp_region_mix [0, 3, 0, 0, 0, 0, 0, 0, 3, 0, 1, 2, 0, 2] (fun w' => ∃ x : Ext wr, w' = x.w) (by kernel_rfl) (by kernel_rfl) (InExt.drew _) ?_
              repeat (first | (refine Mix.wpMix_read (by rfl) ?_; go_big_quiet_step (fail); refine wpQuiet_nil ?_) | (refine Mix.wpMix_pure (by rfl) ?_; go_big_quiet_step (fail); refine wpQuiet_nil ?_))
              refine Mix.wpMix_chg (by rfl) (fun K hK => ?_)
              go_wp2_with fail
              refine hK _ _ ⟨⟨_, below_drew (below_size.alloc (Nat.le_refl _) _)⟩, rfl⟩ ?_
              clear hK K
              refine Mix.wpMix_tail (by rfl) (fun K hK => ?_)
              refine wp_app1 (by rfl) _ _ 24 2 (.int .i64 0) 8 (by rfl) Try.underlying24 info_i64 rfl (w.heap.size + 1 + 1) A (p * m + t) c ((recL s (p * m + t)).map i64) (by rfl) (by exact (HO.out.alloc _).drew) wr.heap.size (i64 (((p : Int) * (m : Int) + (t : Int)) % s)) (by rfl) (by exact new_cell _ _ _ 0) rfl (by omega) (by omega) (by simp; omega) ?_
              intro g' cap w2 own2 hb2 hk2 hg2 hz2
              have n0 : Blk w2 w.heap.size 29 #[.int .i64 0, .slice none 0 0] := (hk2 _ (by simp; omega) (fun ad ha => by have := (HO.out.block ha).1; omega)).trans (B0.out.alloc _)
              have n1 : Blk w2 (w.heap.size + 1) 29 #[.int .i64 s, .slice A (p * m + t) c] := (hk2 _ (by simp; omega) (fun ad ha => by have := (HO.out.block ha).1; omega)).trans (B1.out.alloc _)
              have N0 := Lib.hid n0; have N1 := Lib.hid n1; have O2 := Lib.hid own2; have HB2 := Lib.hid hb2
              have m1 := n1.cell 1; have f1 := n1.frozen 1
              simp at m1
              clear n0 n1 own2 hb2 hk2 hg2 d0 d1 x0 x1
              go_wp2_with fail
              refine hK _ _ ?_
              clear hK K
              repeat (first | (refine Mix.wpMix_read (by rfl) ?_; go_big_quiet_step (fail); refine wpQuiet_nil ?_) | (refine Mix.wpMix_pure (by rfl) ?_; go_big_quiet_step (fail); refine wpQuiet_nil ?_))
              refine Mix.wpMix_tail (by rfl) (fun K hK => ?_)
              go_wp2_with fail
              refine hK _ _ ?_
              clear hK K
              (refine Mix.wpMix_nil ?_; try simp only [Exit.then])
              go_wp2
              go_roundw
              case rel =>
                refine ⟨t + 1, some ⟨g', 0, none⟩, cap, by omega, by go_num, N0.out.far (by simp) _, ?_, ?_, ?_⟩
                · have := N1.out.set_ 1 (.slice (some ⟨g', 0, none⟩) (p * m + t + 1) cap); simpa [← Nat.add_assoc] using this
                · have h := O2.out
                  rw [show p * m + (t + 1) = p * m + t + 1 by omega, recL_succ2, List.map_append]
                  refine h.far (fun ad ha => ?_) _
                  have := (h.block ha).1
                  simp; omega
                · refine Below.setCell (Below.trans HB.out ?_) (by simp) _
                  exact (below_drew ((Below.refl _ _).alloc (by omega) _)).trans (HB2.out.mono (by omega))
              case measure => simp [intOf]; omega
            · have HT := Lib.hid (show p * m + t = (p + 1) * m by rw [show t = m by omega, Nat.add_mul, Nat.one_mul])
              clear b0 b1 hb own d0 d1
              go_wp2
              go_roundw
              case rel => exact ⟨p + 1, A, c, by omega, by go_num, B0.out, by rw [← HT.out]; exact B1.out, by rw [← HT.out]; exact HO.out, HB.out⟩
              case measure => simp [intOf]; omega
        · have HP := Lib.hid (show p = S by omega)
          have hpb : p * m ≤ 120 := by have := Nat.mul_le_mul (show p ≤ 20 by omega) (show m ≤ 6 by omega); omega
          have c0 := b0.cell 0; have c1 := b0.cell 1; have f0 := b0.frozen 0; have f1 := b0.frozen 1; have d1 := b1.cell 1
          have hps : ¬ (p : Int) < s := by have := HS.out; omega
          simp at c0 c1 d1
          clear b0 b1 hb own
          go_wp2
          refine bodyPost_ret (v := .tuple #[.agg #[.int .i64 s, .slice A (p * m) c], .int .i64 0]) (by simp [results, Try.results22, go_sem, c0, c1]) rfl ⟨A, p * m, c, by rw [HF.out], ?_, by omega, (HB.out.setCell (by simp) _).setCell (by simp) _⟩
          rw [HF.out, ← HP.out]
          exact ((HO.out.wr.set_far (.inl (by simp; omega)) _).set_far (.inl (by simp; omega)) _).wider (by omega) (by simp)
end Go.Proofs.Ytbpeagnldgefeaa
