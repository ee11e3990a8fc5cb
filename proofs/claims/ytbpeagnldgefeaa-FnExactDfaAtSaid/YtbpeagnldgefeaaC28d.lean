/-
  Contracts of chapter 28 (automata): DfaAt.
-/
import Derived.Test.YtbpeagnldgefeaaC28
namespace Go.Proofs.Ytbpeagnldgefeaa
open Go.RowKit

def atL (st : Int) : Nat → Int → List Int → List Int × Int
  | 0, r, acc => (0 :: acc, r)
  | k + 1, r, acc => atL st k (r / st) (r % st :: acc)
theorem atL_len (st : Int) : ∀ (k : Nat) (r : Int) (acc : List Int), (atL st k r acc).1.length = k + 1 + acc.length
  | 0, r, acc => by simp [atL]; omega
  | k + 1, r, acc => by rw [atL, atL_len]; simp; omega
def atN (st sym : Int) : Nat := (st * sym).toNat
def atD (st sym rank : Int) : List Int := (atL st (atN st sym - 1) rank []).1
def atOk (st sym rank : Int) : Bool := (atL st (atN st sym - 1) rank []).2 == 0
theorem atD_len {st sym rank : Int} (h : 0 < atN st sym) : (atD st sym rank).length = atN st sym := by
  rw [atD, atL_len]; simp; omega

/-- zeros, and behind them what has been laid -/
def zerosThen (k : Nat) (acc : List Int) : Array Value := (List.replicate (k + 1) (i64 0) ++ acc.map i64).toArray
theorem zerosThen_set (k : Nat) (acc : List Int) (x : Int) : (zerosThen (k + 1) acc).setIfInBounds (k + 1) (i64 x) = zerosThen k (x :: acc) := by
  unfold zerosThen
  simp only [List.setIfInBounds_toArray]
  rw [show List.replicate (k + 1 + 1) (i64 0) = List.replicate (k + 1) (i64 0) ++ [i64 0] by rw [List.replicate_succ']]
  rw [List.append_assoc, List.set_append_right _ _ (by simp)]
  simp
theorem zerosThen_at (k : Nat) (acc : List Int) : (zerosThen k acc)[k]? = some (i64 0) := by
  unfold zerosThen
  simp only [List.getElem?_toArray]
  rw [List.getElem?_append_left (by simp)]
  simp

set_option maxHeartbeats 1000000 in
theorem idfaAt_c (st sym rank : Int) (w : World) (hst : 1 ≤ st ∧ st ≤ 20) (hsy : 2 ≤ sym ∧ sym ≤ 6) (h0 : 0 ≤ rank) (h1 : rank ≤ 1000000000000) :
    Calls Try.prog 64 #[.int .i64 st, .int .i64 sym, .int .i64 rank] w fun e w' => ∃ g, e = .returned (.tuple #[.agg #[.int .i64 st, .slice (some ⟨g, 0, none⟩) (atN st sym) (atN st sym)], .bool (atOk st sym rank)]) ∧
      Wr w' w.heap.size w'.heap.size (some ⟨g, 0, none⟩) (atN st sym) ((atD st sym rank).map i64) ∧ Below w.heap.size w w' := by
  have hm := mul_bd hsy hst
  obtain ⟨N, hN⟩ := Int.eq_ofNat_of_zero_le (show 0 ≤ st * sym by omega)
  have HN := Lib.hid (show atN st sym = N by simp [atN, hN])
  have hN0 : 2 ≤ N ∧ N ≤ 120 := by omega
  have HD := Lib.hid (show atD st sym rank = (atL st (N - 1) rank []).1 by rw [atD, HN.out])
  have HO := Lib.hid (show atOk st sym rank = ((atL st (N - 1) rank []).2 == 0) by rw [atOk, HN.out])
  rw [HN.out]
  clear hm
  have hmk := run_mk (P := Try.prog) 24 2 (.int .i64 0) 8 Try.underlying24 info_i64 rfl .i64 .i64 N N (Nat.le_refl _) (by omega) (by omega)
  go_enter Try.func64, Try.ntmps64
  go_wp2
  clear hmk
  go_loopw [2, 9] (fun q i wr => ∃ (k : Nat) (r : Int) (acc : List Int), k < N ∧ i = .int .i64 k ∧ q = .int .i64 r ∧ 0 ≤ r ∧ r ≤ 1000000000000 ∧ Hid (atL st (N - 1) rank [] = atL st k r acc) ∧ Hid (acc.length + k + 1 = N) ∧
    Blk wr w.heap.size 29 #[.int .i64 0, .slice none 0 0] ∧ Blk wr (w.heap.size + 1) 2 (zerosThen k acc) ∧ Blk wr (w.heap.size + 1 + 1) 29 #[.int .i64 st, .slice (some ⟨w.heap.size + 1, 0, none⟩) N N] ∧ Below w.heap.size w wr) (fun _ i _ => (intOf i).toNat)
  case atStart =>
    refine ⟨N - 1, rank, [], by omega, by go_num, rfl, h0, h1, rfl, by simp [Hid]; omega, ?_, ?_, ?_, ?_⟩
    · exact ((Blk.new w _ _).alloc _).alloc _
    · have := (Blk.new (w.alloc (.cells #[.int .i64 0, .slice none 0 0] 29)) 2 (Array.replicate N (.int .i64 0))).alloc (.cells #[.int .i64 st, .slice (some ⟨w.heap.size + 1, 0, none⟩) N N] 29)
      rw [World.size_alloc] at this
      rwa [show zerosThen (N - 1) [] = Array.replicate N (.int .i64 0) by simp [zerosThen, show N - 1 + 1 = N by omega]]
    · have := Blk.new ((w.alloc (.cells #[.int .i64 0, .slice none 0 0] 29)).alloc (.cells (Array.replicate N (.int .i64 0)) 2)) 29 #[.int .i64 st, .slice (some ⟨w.heap.size + 1, 0, none⟩) N N]
      simpa only [World.size_alloc] using this
    · exact ((below_size.alloc (Nat.le_refl _) _).alloc (by simp) _).alloc (by simp; omega) _
  case round =>
    obtain ⟨k, r, acc, hk, rfl, rfl, hr0, hr1, hr, hl, b0, b1, b2, hb⟩ := hrel
    have B0 := Lib.hid b0; have B1 := Lib.hid b1; have B2 := Lib.hid b2; have HB := Lib.hid hb
    cases k with
    | zero =>
      have c0 := B0.out.cell 0; have c1 := B0.out.cell 1; have f0 := B0.out.frozen 0; have f1 := B0.out.frozen 1
      have d0 := B2.out.cell 0; have d1 := B2.out.cell 1
      simp at c0 c1 d0 d1
      have HV := Lib.hid (show atOk st sym rank = (r == 0) by rw [HO.out, hr.out]; rfl)
      have HW := Lib.hid (show atD st sym rank = 0 :: acc by rw [HD.out, hr.out]; rfl)
      clear b0 b1 b2 hb hr
      go_wp2
      refine bodyPost_ret (v := .tuple #[.agg #[.int .i64 st, .slice (some ⟨w.heap.size + 1, 0, none⟩) N N], .bool (r == 0)]) (by simp [results, Try.results64, go_sem, c0, c1]) rfl ⟨_, by rw [HV.out], ?_, ?_⟩
      · have h := ((B1.out.far (p := ⟨w.heap.size, 0, none⟩) (by simp) (.int .i64 st)).far (p := ⟨w.heap.size, 1, none⟩) (by simp) (.slice (some ⟨w.heap.size + 1, 0, none⟩) N N))
        refine h.wr (by omega) (by simpa using h.lt) ?_ ?_
        · rw [HW.out]; simp [zerosThen]; rw [List.take_of_length_le]; simp; have := hl.out; omega
        · simp [zerosThen]; have := hl.out; omega
      · exact (HB.out.setCell (by simp) _).setCell (by simp) _
    | succ k =>
      have d1 := B2.out.cell 1
      have e1 := B1.out.cell (k + 1); have f1 := B1.out.frozen (k + 1)
      rw [zerosThen_at] at e1
      simp at d1
      have hdiv : 0 ≤ r / st ∧ r / st ≤ 1000000000000 := ⟨Int.ediv_nonneg hr0 (by omega), Int.le_trans (Int.ediv_le_self _ hr0) hr1⟩
      have HR := Lib.hid (show atL st (N - 1) rank [] = atL st k (r / st) (r % st :: acc) by rw [hr.out, atL])
      clear b0 b1 b2 hb hr
      go_wp2
      have x1 := Ext.cell d1
      refine Mix.wp_region_mix [0, 3, 0, 0, 0, 0, 0, 2] (fun w' => ∃ x : Ext wr, w' = x.w) (by kernel_rfl) (by kernel_rfl) (InExt.drew _) ?_
      repeat (first | (refine Mix.wpMix_read (by rfl) ?_; go_big_quiet_step (fail); refine wpQuiet_nil ?_) | (refine Mix.wpMix_pure (by rfl) ?_; go_big_quiet_step (fail); refine wpQuiet_nil ?_))
      refine Mix.wpMix_tail (by rfl) (fun K hK => ?_)
      go_wp2_with fail
      refine hK _ _ ?_
      clear hK K
      (refine Mix.wpMix_nil ?_; try simp only [Exit.then])
      go_wp2
      go_roundw
      case rel => exact ⟨k, r / st, r % st :: acc, by omega, by go_num, rfl, hdiv.1, hdiv.2, HR.out, by have := hl.out; simp [Hid]; omega, B0.out.far (by simp) _, by have := B1.out.set_ (k + 1) (i64 (r % st)); rwa [zerosThen_set] at this, B2.out.far (by simp) _, below_drew (HB.out.setCell (by simp) _)⟩
      case measure => simp [intOf]
set_option maxHeartbeats 1000000 in
theorem sl28At_c (st sym rank : Int) (w : World) (hst : 1 ≤ st ∧ st ≤ 20) (hsy : 2 ≤ sym ∧ sym ≤ 6) (h0 : 0 ≤ rank) (h1 : rank ≤ 1000000000000) :
    Calls Try.prog 63 #[.int .i64 st, .int .i64 sym, .int .i64 rank] w fun e w' => ∃ g, e = .returned (.tuple #[.agg #[.int .i64 st, .slice (some ⟨g, 0, none⟩) (atN st sym) (atN st sym)], .bool (atOk st sym rank)]) ∧
      Wr w' w.heap.size w'.heap.size (some ⟨g, 0, none⟩) (atN st sym) ((atD st sym rank).map i64) ∧ Below w.heap.size w w' := by
  have hm := mul_bd hsy hst
  obtain ⟨N, hN⟩ := Int.eq_ofNat_of_zero_le (show 0 ≤ st * sym by omega)
  have HN := Lib.hid (show atN st sym = N by simp [atN, hN])
  have hN0 : 2 ≤ N ∧ N ≤ 120 := by omega
  have HD := Lib.hid (show atD st sym rank = (atL st (N - 1) rank []).1 by rw [atD, HN.out])
  have HO := Lib.hid (show atOk st sym rank = ((atL st (N - 1) rank []).2 == 0) by rw [atOk, HN.out])
  rw [HN.out]
  clear hm
  have hmk := run_mk (P := Try.prog) 24 2 (.int .i64 0) 8 Try.underlying24 info_i64 rfl .i64 .i64 N N (Nat.le_refl _) (by omega) (by omega)
  go_enter Try.func63, Try.ntmps63
  go_wp2
  clear hmk
  go_loopw [2, 9] (fun q i wr => ∃ (k : Nat) (r : Int) (acc : List Int), k < N ∧ i = .int .i64 k ∧ q = .int .i64 r ∧ 0 ≤ r ∧ r ≤ 1000000000000 ∧ Hid (atL st (N - 1) rank [] = atL st k r acc) ∧ Hid (acc.length + k + 1 = N) ∧
    Blk wr w.heap.size 29 #[.int .i64 0, .slice none 0 0] ∧ Blk wr (w.heap.size + 1) 2 (zerosThen k acc) ∧ Blk wr (w.heap.size + 1 + 1) 29 #[.int .i64 st, .slice (some ⟨w.heap.size + 1, 0, none⟩) N N] ∧ Below w.heap.size w wr) (fun _ i _ => (intOf i).toNat)
  case atStart =>
    refine ⟨N - 1, rank, [], by omega, by go_num, rfl, h0, h1, rfl, by simp [Hid]; omega, ?_, ?_, ?_, ?_⟩
    · exact ((Blk.new w _ _).alloc _).alloc _
    · have := (Blk.new (w.alloc (.cells #[.int .i64 0, .slice none 0 0] 29)) 2 (Array.replicate N (.int .i64 0))).alloc (.cells #[.int .i64 st, .slice (some ⟨w.heap.size + 1, 0, none⟩) N N] 29)
      rw [World.size_alloc] at this
      rwa [show zerosThen (N - 1) [] = Array.replicate N (.int .i64 0) by simp [zerosThen, show N - 1 + 1 = N by omega]]
    · have := Blk.new ((w.alloc (.cells #[.int .i64 0, .slice none 0 0] 29)).alloc (.cells (Array.replicate N (.int .i64 0)) 2)) 29 #[.int .i64 st, .slice (some ⟨w.heap.size + 1, 0, none⟩) N N]
      simpa only [World.size_alloc] using this
    · exact ((below_size.alloc (Nat.le_refl _) _).alloc (by simp) _).alloc (by simp; omega) _
  case round =>
    obtain ⟨k, r, acc, hk, rfl, rfl, hr0, hr1, hr, hl, b0, b1, b2, hb⟩ := hrel
    have B0 := Lib.hid b0; have B1 := Lib.hid b1; have B2 := Lib.hid b2; have HB := Lib.hid hb
    cases k with
    | zero =>
      have c0 := B0.out.cell 0; have c1 := B0.out.cell 1; have f0 := B0.out.frozen 0; have f1 := B0.out.frozen 1
      have d0 := B2.out.cell 0; have d1 := B2.out.cell 1
      simp at c0 c1 d0 d1
      have HV := Lib.hid (show atOk st sym rank = (r == 0) by rw [HO.out, hr.out]; rfl)
      have HW := Lib.hid (show atD st sym rank = 0 :: acc by rw [HD.out, hr.out]; rfl)
      clear b0 b1 b2 hb hr
      go_wp2
      refine bodyPost_ret (v := .tuple #[.agg #[.int .i64 st, .slice (some ⟨w.heap.size + 1, 0, none⟩) N N], .bool (r == 0)]) (by simp [results, Try.results63, go_sem, c0, c1]) rfl ⟨_, by rw [HV.out], ?_, ?_⟩
      · have h := ((B1.out.far (p := ⟨w.heap.size, 0, none⟩) (by simp) (.int .i64 st)).far (p := ⟨w.heap.size, 1, none⟩) (by simp) (.slice (some ⟨w.heap.size + 1, 0, none⟩) N N))
        refine h.wr (by omega) (by simpa using h.lt) ?_ ?_
        · rw [HW.out]; simp [zerosThen]; rw [List.take_of_length_le]; simp; have := hl.out; omega
        · simp [zerosThen]; have := hl.out; omega
      · exact (HB.out.setCell (by simp) _).setCell (by simp) _
    | succ k =>
      have d1 := B2.out.cell 1
      have e1 := B1.out.cell (k + 1); have f1 := B1.out.frozen (k + 1)
      rw [zerosThen_at] at e1
      simp at d1
      have hdiv : 0 ≤ r / st ∧ r / st ≤ 1000000000000 := ⟨Int.ediv_nonneg hr0 (by omega), Int.le_trans (Int.ediv_le_self _ hr0) hr1⟩
      have HR := Lib.hid (show atL st (N - 1) rank [] = atL st k (r / st) (r % st :: acc) by rw [hr.out, atL])
      clear b0 b1 b2 hb hr
      go_wp2
      have x1 := Ext.cell d1
      refine Mix.wp_region_mix [0, 3, 0, 0, 0, 0, 0, 2] (fun w' => ∃ x : Ext wr, w' = x.w) (by kernel_rfl) (by kernel_rfl) (InExt.drew _) ?_
      repeat (first | (refine Mix.wpMix_read (by rfl) ?_; go_big_quiet_step (fail); refine wpQuiet_nil ?_) | (refine Mix.wpMix_pure (by rfl) ?_; go_big_quiet_step (fail); refine wpQuiet_nil ?_))
      refine Mix.wpMix_tail (by rfl) (fun K hK => ?_)
      go_wp2_with fail
      refine hK _ _ ?_
      clear hK K
      (refine Mix.wpMix_nil ?_; try simp only [Exit.then])
      go_wp2
      go_roundw
      case rel => exact ⟨k, r / st, r % st :: acc, by omega, by go_num, rfl, hdiv.1, hdiv.2, HR.out, by have := hl.out; simp [Hid]; omega, B0.out.far (by simp) _, by have := B1.out.set_ (k + 1) (i64 (r % st)); rwa [zerosThen_set] at this, B2.out.far (by simp) _, below_drew (HB.out.setCell (by simp) _)⟩
      case measure => simp [intOf]
def atR (st sym rank : Int) : (Int × List Int) × Int :=
  if inB sym 2 6 then (if inB st 1 20 && inB rank 0 1000000000000 then (if atOk st sym rank then ((st, atD st sym rank), 0) else ((0, []), 3)) else ((0, []), 2)) else ((0, []), 1)

set_option maxHeartbeats 1000000 in
theorem iDfaAt_c (st sym rank : Int) (w : World) :
    Calls Try.prog 27 #[.int .i64 st, .int .i64 sym, .int .i64 rank] w fun e w' => ∃ A n c, e = .returned (.tuple #[.agg #[.int .i64 (atR st sym rank).1.1, .slice A n c], .int .i64 (atR st sym rank).2]) ∧
      Wr w' w.heap.size w'.heap.size A n ((atR st sym rank).1.2.map i64) ∧ n ≤ 1000000 ∧ Below w.heap.size w w' := by
  cases hb1 : inB sym 2 6
  · have HR := Lib.hid (show atR st sym rank = ((0, []), 1) by simp [atR, hb1])
    go_enter Try.func27, Try.ntmps27
    go_wp2_with (first | (go_at_call 56; refine (within_b _ _ _ _ (by assumption) _).mono ?_; rintro e w' ⟨rfl, rfl⟩) | (go_at_call 60; refine (symbolsOk_b _ _ (by assumption) _).mono ?_; rintro e w' ⟨rfl, rfl⟩))
    exact bodyPost_ret (v := .tuple #[.agg #[.int .i64 0, .slice none 0 0], .int .i64 1]) (by simp [results, Try.results27, go_sem]) rfl ⟨none, 0, 0, by rw [HR.out], by rw [HR.out]; exact Wr.nil, by omega, below_size.alloc (Nat.le_refl _) _⟩
  cases hb2 : inB st 1 20
  · have HR := Lib.hid (show atR st sym rank = ((0, []), 2) by simp [atR, hb1, hb2])
    go_enter Try.func27, Try.ntmps27
    go_wp2_with (first | (go_at_call 56; refine (within_b _ _ _ _ (by assumption) _).mono ?_; rintro e w' ⟨rfl, rfl⟩) | (go_at_call 60; refine (symbolsOk_b _ _ (by assumption) _).mono ?_; rintro e w' ⟨rfl, rfl⟩))
    exact bodyPost_ret (v := .tuple #[.agg #[.int .i64 0, .slice none 0 0], .int .i64 2]) (by simp [results, Try.results27, go_sem]) rfl ⟨none, 0, 0, by rw [HR.out], by rw [HR.out]; exact Wr.nil, by omega, below_size.alloc (Nat.le_refl _) _⟩
  cases hb3 : inB rank 0 1000000000000
  · have HR := Lib.hid (show atR st sym rank = ((0, []), 2) by simp [atR, hb1, hb3])
    go_enter Try.func27, Try.ntmps27
    go_wp2_with (first | (go_at_call 56; refine (within_b _ _ _ _ (by assumption) _).mono ?_; rintro e w' ⟨rfl, rfl⟩) | (go_at_call 60; refine (symbolsOk_b _ _ (by assumption) _).mono ?_; rintro e w' ⟨rfl, rfl⟩))
    exact bodyPost_ret (v := .tuple #[.agg #[.int .i64 0, .slice none 0 0], .int .i64 2]) (by simp [results, Try.results27, go_sem]) rfl ⟨none, 0, 0, by rw [HR.out], by rw [HR.out]; exact Wr.nil, by omega, below_size.alloc (Nat.le_refl _) _⟩
  have hsy := inB_t hb1
  have hst := inB_t hb2
  have hrk := inB_t hb3
  have hN : atN st sym ≤ 120 := by have := mul_bd hsy hst; simp [atN]; omega
  cases hok : atOk st sym rank
  · have HR := Lib.hid (show atR st sym rank = ((0, []), 3) by simp [atR, hb1, hb2, hb3, hok])
    go_enter Try.func27, Try.ntmps27
    go_wp2_with (first | (go_at_call 56; refine (within_b _ _ _ _ (by assumption) _).mono ?_; rintro e w' ⟨rfl, rfl⟩) | (go_at_call 60; refine (symbolsOk_b _ _ (by assumption) _).mono ?_; rintro e w' ⟨rfl, rfl⟩))
    refine (idfaAt_c _ _ _ _ hst hsy hrk.1 hrk.2).mono ?_
    rintro e w1 ⟨g, rfl, q, hb⟩
    have R := (Blk.new w 29 #[.int .i64 0, .slice none 0 0]).keep hb
    have c0 := R.cellA 0; have c1 := R.cellA 1; have f0 := R.frozenA 0; have f1 := R.frozenA 1
    simp at c0 c1
    have HB := Lib.hid (up1 hb)
    clear q hb R
    rw [hok]
    go_wp2
    exact bodyPost_ret (v := .tuple #[.agg #[.int .i64 0, .slice none 0 0], .int .i64 3]) (by simp [results, Try.results27, go_sem, c0, c1]) rfl ⟨none, 0, 0, by rw [HR.out], by rw [HR.out]; exact Wr.nil, by omega, ((HB.out.alloc HB.out.size _).setCell (by simp) _).setCell (by simp) _⟩
  · have HR := Lib.hid (show atR st sym rank = ((st, atD st sym rank), 0) by simp [atR, hb1, hb2, hb3, hok])
    go_enter Try.func27, Try.ntmps27
    go_wp2_with (first | (go_at_call 56; refine (within_b _ _ _ _ (by assumption) _).mono ?_; rintro e w' ⟨rfl, rfl⟩) | (go_at_call 60; refine (symbolsOk_b _ _ (by assumption) _).mono ?_; rintro e w' ⟨rfl, rfl⟩))
    refine (idfaAt_c _ _ _ _ hst hsy hrk.1 hrk.2).mono ?_
    rintro e w1 ⟨g, rfl, q, hb⟩
    have R := (Blk.new w 29 #[.int .i64 0, .slice none 0 0]).keep hb
    have c0 := R.cellA 0; have c1 := R.cellA 1; have f0 := R.frozenA 0; have f1 := R.frozenA 1
    simp at c0 c1
    have HB := Lib.hid (up1 hb)
    have Q := Lib.hid q
    have hz := hb.size
    simp only [World.size_alloc] at hz
    clear q hb R
    rw [hok]
    go_wp2
    refine bodyPost_ret (v := .tuple #[.agg #[.int .i64 st, .slice (some ⟨g, 0, none⟩) (atN st sym) (atN st sym)], .int .i64 0]) (by simp [results, Try.results27, go_sem, c0, c1]) rfl ⟨_, _, _, by rw [HR.out], ?_, by omega, ((HB.out.alloc HB.out.size _).setCell (by simp) _).setCell (by simp) _⟩
    rw [HR.out]
    have q := Q.out
    simp only [World.size_alloc] at q
    exact (((q.alloc _).set_far (.inl (by simp)) _).set_far (.inl (by simp)) _).wider (by omega) (by simp)
set_option maxHeartbeats 1000000 in
theorem sDfaAt_c (st sym rank : Int) (w : World) :
    Calls Try.prog 26 #[.int .i64 st, .int .i64 sym, .int .i64 rank] w fun e w' => ∃ A n c, e = .returned (.tuple #[.agg #[.int .i64 (atR st sym rank).1.1, .slice A n c], .int .i64 (atR st sym rank).2]) ∧
      Wr w' w.heap.size w'.heap.size A n ((atR st sym rank).1.2.map i64) ∧ n ≤ 1000000 ∧ Below w.heap.size w w' := by
  cases hb1 : inB sym 2 6
  · have HR := Lib.hid (show atR st sym rank = ((0, []), 1) by simp [atR, hb1])
    go_enter Try.func26, Try.ntmps26
    go_wp2_with (first | (go_at_call 54; refine (l00In_b _ _ _ _ (by assumption) _).mono ?_; rintro e w' ⟨rfl, rfl⟩) | (go_at_call 60; refine (symbolsOk_b _ _ (by assumption) _).mono ?_; rintro e w' ⟨rfl, rfl⟩))
    exact bodyPost_ret (v := .tuple #[.agg #[.int .i64 0, .slice none 0 0], .int .i64 1]) (by simp [results, Try.results26, go_sem]) rfl ⟨none, 0, 0, by rw [HR.out], by rw [HR.out]; exact Wr.nil, by omega, below_size.alloc (Nat.le_refl _) _⟩
  cases hb2 : inB st 1 20
  · have HR := Lib.hid (show atR st sym rank = ((0, []), 2) by simp [atR, hb1, hb2])
    go_enter Try.func26, Try.ntmps26
    go_wp2_with (first | (go_at_call 54; refine (l00In_b _ _ _ _ (by assumption) _).mono ?_; rintro e w' ⟨rfl, rfl⟩) | (go_at_call 60; refine (symbolsOk_b _ _ (by assumption) _).mono ?_; rintro e w' ⟨rfl, rfl⟩))
    exact bodyPost_ret (v := .tuple #[.agg #[.int .i64 0, .slice none 0 0], .int .i64 2]) (by simp [results, Try.results26, go_sem]) rfl ⟨none, 0, 0, by rw [HR.out], by rw [HR.out]; exact Wr.nil, by omega, below_size.alloc (Nat.le_refl _) _⟩
  cases hb3 : inB rank 0 1000000000000
  · have HR := Lib.hid (show atR st sym rank = ((0, []), 2) by simp [atR, hb1, hb3])
    go_enter Try.func26, Try.ntmps26
    go_wp2_with (first | (go_at_call 54; refine (l00In_b _ _ _ _ (by assumption) _).mono ?_; rintro e w' ⟨rfl, rfl⟩) | (go_at_call 60; refine (symbolsOk_b _ _ (by assumption) _).mono ?_; rintro e w' ⟨rfl, rfl⟩))
    exact bodyPost_ret (v := .tuple #[.agg #[.int .i64 0, .slice none 0 0], .int .i64 2]) (by simp [results, Try.results26, go_sem]) rfl ⟨none, 0, 0, by rw [HR.out], by rw [HR.out]; exact Wr.nil, by omega, below_size.alloc (Nat.le_refl _) _⟩
  have hsy := inB_t hb1
  have hst := inB_t hb2
  have hrk := inB_t hb3
  have hN : atN st sym ≤ 120 := by have := mul_bd hsy hst; simp [atN]; omega
  cases hok : atOk st sym rank
  · have HR := Lib.hid (show atR st sym rank = ((0, []), 3) by simp [atR, hb1, hb2, hb3, hok])
    go_enter Try.func26, Try.ntmps26
    go_wp2_with (first | (go_at_call 54; refine (l00In_b _ _ _ _ (by assumption) _).mono ?_; rintro e w' ⟨rfl, rfl⟩) | (go_at_call 60; refine (symbolsOk_b _ _ (by assumption) _).mono ?_; rintro e w' ⟨rfl, rfl⟩))
    refine (sl28At_c _ _ _ _ hst hsy hrk.1 hrk.2).mono ?_
    rintro e w1 ⟨g, rfl, q, hb⟩
    have R := (Blk.new w 29 #[.int .i64 0, .slice none 0 0]).keep hb
    have c0 := R.cellA 0; have c1 := R.cellA 1; have f0 := R.frozenA 0; have f1 := R.frozenA 1
    simp at c0 c1
    have HB := Lib.hid (up1 hb)
    clear q hb R
    rw [hok]
    go_wp2
    exact bodyPost_ret (v := .tuple #[.agg #[.int .i64 0, .slice none 0 0], .int .i64 3]) (by simp [results, Try.results26, go_sem, c0, c1]) rfl ⟨none, 0, 0, by rw [HR.out], by rw [HR.out]; exact Wr.nil, by omega, ((HB.out.alloc HB.out.size _).setCell (by simp) _).setCell (by simp) _⟩
  · have HR := Lib.hid (show atR st sym rank = ((st, atD st sym rank), 0) by simp [atR, hb1, hb2, hb3, hok])
    go_enter Try.func26, Try.ntmps26
    go_wp2_with (first | (go_at_call 54; refine (l00In_b _ _ _ _ (by assumption) _).mono ?_; rintro e w' ⟨rfl, rfl⟩) | (go_at_call 60; refine (symbolsOk_b _ _ (by assumption) _).mono ?_; rintro e w' ⟨rfl, rfl⟩))
    refine (sl28At_c _ _ _ _ hst hsy hrk.1 hrk.2).mono ?_
    rintro e w1 ⟨g, rfl, q, hb⟩
    have R := (Blk.new w 29 #[.int .i64 0, .slice none 0 0]).keep hb
    have c0 := R.cellA 0; have c1 := R.cellA 1; have f0 := R.frozenA 0; have f1 := R.frozenA 1
    simp at c0 c1
    have HB := Lib.hid (up1 hb)
    have Q := Lib.hid q
    have hz := hb.size
    simp only [World.size_alloc] at hz
    clear q hb R
    rw [hok]
    go_wp2
    refine bodyPost_ret (v := .tuple #[.agg #[.int .i64 st, .slice (some ⟨g, 0, none⟩) (atN st sym) (atN st sym)], .int .i64 0]) (by simp [results, Try.results26, go_sem, c0, c1]) rfl ⟨_, _, _, by rw [HR.out], ?_, by omega, ((HB.out.alloc HB.out.size _).setCell (by simp) _).setCell (by simp) _⟩
    rw [HR.out]
    have q := Q.out
    simp only [World.size_alloc] at q
    exact (((q.alloc _).set_far (.inl (by simp)) _).set_far (.inl (by simp)) _).wider (by omega) (by simp)
end Go.Proofs.Ytbpeagnldgefeaa
