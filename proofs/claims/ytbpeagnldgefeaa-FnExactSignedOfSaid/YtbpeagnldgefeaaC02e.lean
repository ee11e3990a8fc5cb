/-
  Contracts of chapter 4 (codings): SignedOf.
-/
import Derived.Test.YtbpeagnldgefeaaC02d
import Derived.Test.YtbpeagnldgefeaaPlain02b
import Derived.OwnWalk
namespace Go.Proofs.Ytbpeagnldgefeaa
open Go.RowKit

def HalfOut (xs : List Int) (w : World) (e : Ending) (w' : World) : Prop := ∃ A c, e = .returned (.tuple #[.slice A (trimL (quoL xs)).length c, .int .i64 (remL xs)]) ∧ Wr w' w.heap.size w'.heap.size A (trimL (quoL xs)).length ((trimL (quoL xs)).map i64) ∧ Below w.heap.size w w'
def SignOut (R : (Bool × List Int) × Int) (w : World) (e : Ending) (w' : World) : Prop := ∃ A n c, e = .returned (.tuple #[.bool R.1.1, .slice A n c, .int .i64 R.2]) ∧ Wr w' w.heap.size w'.heap.size A n (R.1.2.map i64) ∧ n ≤ 1000000 ∧ Below w.heap.size w w'

theorem carT_len1 : ∀ (f : Nat) (c : Int), c < 1000000 → (carT f c).length ≤ 1
  | 0, _, _ => by simp [carT]
  | f + 1, c, h => by
    simp only [carT]
    split
    · cases f with
      | zero => simp [carT]
      | succ f => simp only [carT, List.length_cons]; rw [if_neg (by omega)]; simp
    · simp
theorem carL_len1 : ∀ (zs : List Int) (c : Int), 0 ≤ c → c ≤ 10 → (∀ z ∈ zs, 0 ≤ z ∧ z ≤ 2000000) → (carL zs c).length ≤ zs.length + 1
  | [], c, h0, h1, _ => by have := carT_len1 c.toNat c (by omega); simp only [carL, List.length_nil]; omega
  | z :: zs, c, h0, h1, hz => by
    have hb := hz z (by simp)
    have := carL_len1 zs ((c + z) / 1000000) (by omega) (by omega) (fun u hu => hz u (by simp [hu]))
    simp only [carL, List.length_cons]; omega
theorem sum_bd1 {xs : List Int} (h : natB xs = true) : ∀ z ∈ sumL xs [1], 0 ≤ z ∧ z ≤ 2000000 := by
  obtain ⟨_, b, _⟩ := natB_parts h
  cases xs with
  | nil => simp [sumL]
  | cons x xs =>
    intro z hz
    simp only [sumL, sumL_nil_right, List.mem_cons] at hz
    rcases hz with rfl | hz
    · have := b x (by simp); omega
    · have := b z (by simp [hz]); omega
theorem inc_len' {xs : List Int} (h : natB xs = true) : (carL (sumL xs [1]) 0).length ≤ 1000 := by
  have := carL_len1 (sumL xs [1]) 0 (by omega) (by omega) (sum_bd1 h)
  have a := (natB_parts h).1
  rw [sumL_len] at this
  simp only [List.length_cons, List.length_nil] at this
  omega
theorem inc_len {xs : List Int} (h : natB xs = true) : (carL (sumL xs [1]) 0).length ≤ 1000000 := Nat.le_trans (inc_len' h) (by omega)
theorem halfTo_at {xs : List Int} {k : Nat} : ((halfTo xs (k + 1)).map i64).toArray[k]? = some (i64 0) := by
  simp only [List.getElem?_toArray, List.getElem?_map, halfTo]
  rw [List.getElem?_append_left (by simp), List.getElem?_replicate, if_pos (by omega)]; rfl
theorem halfTo_setA {xs : List Int} {k : Nat} {x : Int} (hx : xs[k]? = some x) : (((halfTo xs (k + 1)).map i64).toArray.setIfInBounds k (i64 ((remL (xs.drop (k + 1)) * 1000000 + x) / 2))) = ((halfTo xs k).map i64).toArray := by
  rw [List.setIfInBounds_toArray, ← List.map_set, halfTo_set hx]

set_option maxHeartbeats 1000000 in
theorem l02Trim_c (A : Option Addr) (n c : Nat) (xs : List Int) (w : World) (h : RdI w A n xs) (hn : n ≤ 10000000000000) (hnc : n ≤ c) :
    Calls Try.prog 97 #[.slice A n c] w fun e w' => e = .returned (.slice A (trimL xs).length c) ∧ w = w' := by
  have HL := Lib.hid h.len
  have H := Lib.hid h; clear h
  have H0 := Lib.hid (show trimL xs = trimL (xs.take n) by rw [← HL.out, List.take_length])
  go_enter Try.func97, Try.ntmps97
  go_wp2
  go_loop [3] (fun v => ∃ k : Nat, k ≤ n ∧ v = .int .i64 k ∧ Hid (trimL xs = trimL (xs.take k))) (fun v => (intOf v).toNat)
  case atStart => exact ⟨n, by omega, rfl, H0.out⟩
  case round =>
    obtain ⟨k, hk, rfl, hr⟩ := hrel
    by_cases hk0 : 0 < k
    · obtain ⟨ad, x, rfl, hab, hx, hcx⟩ := H.out.at_ (show k - 1 < n by omega)
      have g1 : decide ((0 : Int) < (k : Int)) = true := by simp; omega
      by_cases hx0 : x = 0
      · have g2 : (x == 0) = true := by simpa using hx0
        have HF := Lib.hid (show trimL xs = trimL (xs.take (k - 1)) by rw [hr.out, show xs.take k = xs.take ((k - 1) + 1) by rw [show (k - 1) + 1 = k by omega]]; rw [hx0] at hx; exact trimL_zero hx)
        clear hx hx0
        go_wp2
        go_round
        case rel => exact ⟨k - 1, by omega, by go_num, HF.out⟩
        case measure => simp [intOf]; omega
      · have g2 : (x == 0) = false := by simpa using hx0
        have HF := Lib.hid (show (trimL xs).length = k by rw [hr.out, show xs.take k = xs.take ((k - 1) + 1) by rw [show (k - 1) + 1 = k by omega], trimL_stop hx hx0, List.length_take, HL.out]; omega)
        clear hx hx0
        go_wp2
        go_ret
        exact ⟨by rw [HF.out]; rfl, rfl⟩
    · have g1 : decide ((0 : Int) < (k : Int)) = false := by simp; omega
      have HF := Lib.hid (show (trimL xs).length = k by rw [hr.out, show k = 0 by omega]; rfl)
      go_wp2
      go_ret
      exact ⟨by rw [HF.out]; rfl, rfl⟩

set_option maxHeartbeats 2000000 in
set_option maxRecDepth 100000 in
theorem divideSmall_c (A : Option Addr) (n c : Nat) (xs : List Int) (w : World) (h : RdI w A n xs) (hn : n ≤ 1000) (hx : limbs xs) :
    Calls Try.prog 84 #[.slice A n c, .int .i64 2] w (HalfOut xs w) := by
  have HL := Lib.hid h.len
  have H := Lib.hid h; have HX := Lib.hid hx
  clear h hx
  have hmk := run_mk (P := Try.prog) 24 2 (.int .i64 0) 8 Try.underlying24 info_i64 rfl .i64 .i64 n n (Nat.le_refl _) (by omega) (by omega)
  go_enter Try.func84, Try.ntmps84
  go_wp2
  clear hmk
  go_loopw [7, 8] (fun rv iv wr => ∃ (k : Nat) (i r : Int), k ≤ n ∧ rv = .int .i64 r ∧ iv = .int .i64 i ∧ i = (k : Int) - 1 ∧ Hid (r = remL (xs.drop k)) ∧ Blk wr w.heap.size 2 ((halfTo xs k).map i64).toArray ∧ Below w.heap.size w wr) (fun _ iv _ => (intOf iv + 1).toNat)
  case atStart =>
    refine ⟨n, _, 0, by omega, rfl, rfl, rfl, ?_, ?_, below_size.alloc (Nat.le_refl _) _⟩
    · show 0 = _
      rw [List.drop_eq_nil_of_le (by rw [HL.out]; omega)]; rfl
    · rw [halfTo_all HL.out]
      have := Blk.new w 2 (Array.replicate n (.int .i64 0)); unfold Blk at this ⊢; simpa using this
  case round =>
    obtain ⟨k, i, r, hk, rfl, rfl, hi, hr, hblk, hb⟩ := hrel
    have HBk := Lib.hid hblk; have HB := Lib.hid hb
    have hrb : 0 ≤ r ∧ r ≤ 1 := by rw [hr.out]; exact remL_bd _
    by_cases hk0 : 0 < k
    · obtain ⟨j, rfl⟩ : ∃ j, k = j + 1 := ⟨k - 1, by omega⟩
      obtain rfl : i = (j : Int) := by omega
      obtain ⟨ad, x, rfl, hab, hx, hcx⟩ := (H.out.below hb).at_ (show j < n by omega)
      have hxb := HX.out x (List.mem_of_getElem? hx)
      have hd := hblk.cell j
      rw [halfTo_at] at hd
      have hf := hblk.frozen j
      have HR := Lib.hid (show (r * 1000000 + x) % 2 = remL (xs.drop j) by rw [remL_at hx, hr.out])
      have HS := Lib.hid (show (((halfTo xs (j + 1)).map i64).toArray.setIfInBounds j (i64 ((r * 1000000 + x) / 2))) = ((halfTo xs j).map i64).toArray by rw [hr.out]; exact halfTo_setA hx)
      clear hblk hb hx hi
      go_wp2
      refine Mix.wp_region_mix [0, 0, 0, 0, 0, 0, 0, 0, 0, 2, 0] (fun w' => ∃ x : Ext wr, w' = x.w) (by kernel_rfl) (by kernel_rfl) (InExt.drew _) ?_
      repeat (first | (refine Mix.wpMix_read (by rfl) ?_; go_big_quiet_step (fail); refine wpQuiet_nil ?_) | (refine Mix.wpMix_pure (by rfl) ?_; go_big_quiet_step (fail); refine wpQuiet_nil ?_))
      refine Mix.wpMix_tail (by rfl) (fun K hK => ?_)
      go_wp2_with fail
      refine hK _ _ ?_
      clear hK K
      repeat (first | (refine Mix.wpMix_read (by rfl) ?_; go_big_quiet_step (fail); refine wpQuiet_nil ?_) | (refine Mix.wpMix_pure (by rfl) ?_; go_big_quiet_step (fail); refine wpQuiet_nil ?_))
      (refine Mix.wpMix_nil ?_; try simp only [Exit.then])
      go_wp2
      go_roundw
      case rel =>
        refine ⟨j, _, _, by omega, rfl, by go_num, by omega, HR.out, ?_, (by have hzz := (HB.out).size; repeat' (first | (with_reducible exact HB.out) | (with_reducible refine Below.alloc ?_ ?_ _) | (with_reducible refine Below.setCell ?_ ?_ _) | (with_reducible refine below_drew ?_) | omega | (simp; done) | (simp; omega)))⟩
        have := HBk.out.set_ j (i64 ((r * 1000000 + x) / 2))
        rw [HS.out] at this
        exact this
      case measure => simp [intOf] <;> omega
    · obtain rfl : k = 0 := by omega
      obtain rfl : i = -1 := by omega
      have HR := Lib.hid (show r = remL xs by rw [hr.out]; rfl)
      have RQ := Lib.hid (show RdI wr (some ⟨w.heap.size, 0, none⟩) n (quoL xs) by
        have h := HBk.out
        rw [halfTo_zero] at h
        exact h.rd (List.take_of_length_le (by simp [quoL_len, HL.out])) (by simp [quoL_len, HL.out]))
      clear hblk hb hi
      go_wp2_with (go_at_call 98; refine (trimmed_c _ _ _ (quoL xs) _ RQ.out (by omega) (by omega)).mono ?_; rintro e w' ⟨rfl, rfl⟩)
      go_ret2
      refine ⟨some ⟨w.heap.size, 0, none⟩, n, by rw [← HR.out]; rfl, ?_, HB.out⟩
      have h := HBk.out
      rw [halfTo_zero] at h
      have hw : Wr wr w.heap.size wr.heap.size (some ⟨w.heap.size, 0, none⟩) n ((quoL xs).map i64) := h.wr (Nat.le_refl _) h.lt (List.take_of_length_le (by simp [quoL_len, HL.out])) (by simp [quoL_len, HL.out])
      have hw2 := hw.take (k := (trimL (quoL xs)).length) (by have := trimL_len (quoL xs); rw [quoL_len, HL.out] at this; omega)
      rw [← List.map_take, ← trimL_take] at hw2
      exact hw2
set_option maxHeartbeats 2000000 in
set_option maxRecDepth 100000 in
theorem l02By_c (A : Option Addr) (n c : Nat) (xs : List Int) (w : World) (h : RdI w A n xs) (hn : n ≤ 1000) (hx : limbs xs) :
    Calls Try.prog 82 #[.slice A n c, .int .i64 2] w (HalfOut xs w) := by
  have HL := Lib.hid h.len
  have H := Lib.hid h; have HX := Lib.hid hx
  clear h hx
  have hmk := run_mk (P := Try.prog) 24 2 (.int .i64 0) 8 Try.underlying24 info_i64 rfl .i64 .i64 n n (Nat.le_refl _) (by omega) (by omega)
  go_enter Try.func82, Try.ntmps82
  go_wp2
  clear hmk
  go_loopw [7, 8] (fun rv iv wr => ∃ (k : Nat) (i r : Int), k ≤ n ∧ rv = .int .i64 r ∧ iv = .int .i64 i ∧ i = (k : Int) - 1 ∧ Hid (r = remL (xs.drop k)) ∧ Blk wr w.heap.size 2 ((halfTo xs k).map i64).toArray ∧ Below w.heap.size w wr) (fun _ iv _ => (intOf iv + 1).toNat)
  case atStart =>
    refine ⟨n, _, 0, by omega, rfl, rfl, rfl, ?_, ?_, below_size.alloc (Nat.le_refl _) _⟩
    · show 0 = _
      rw [List.drop_eq_nil_of_le (by rw [HL.out]; omega)]; rfl
    · rw [halfTo_all HL.out]
      have := Blk.new w 2 (Array.replicate n (.int .i64 0)); unfold Blk at this ⊢; simpa using this
  case round =>
    obtain ⟨k, i, r, hk, rfl, rfl, hi, hr, hblk, hb⟩ := hrel
    have HBk := Lib.hid hblk; have HB := Lib.hid hb
    have hrb : 0 ≤ r ∧ r ≤ 1 := by rw [hr.out]; exact remL_bd _
    by_cases hk0 : 0 < k
    · obtain ⟨j, rfl⟩ : ∃ j, k = j + 1 := ⟨k - 1, by omega⟩
      obtain rfl : i = (j : Int) := by omega
      obtain ⟨ad, x, rfl, hab, hx, hcx⟩ := (H.out.below hb).at_ (show j < n by omega)
      have hxb := HX.out x (List.mem_of_getElem? hx)
      have hd := hblk.cell j
      rw [halfTo_at] at hd
      have hf := hblk.frozen j
      have HR := Lib.hid (show (r * 1000000 + x) % 2 = remL (xs.drop j) by rw [remL_at hx, hr.out])
      have HS := Lib.hid (show (((halfTo xs (j + 1)).map i64).toArray.setIfInBounds j (i64 ((r * 1000000 + x) / 2))) = ((halfTo xs j).map i64).toArray by rw [hr.out]; exact halfTo_setA hx)
      clear hblk hb hx hi
      go_wp2
      skip
      go_roundw
      case rel =>
        refine ⟨j, _, _, by omega, rfl, by go_num, by omega, HR.out, ?_, (by have hzz := (HB.out).size; repeat' (first | (with_reducible exact HB.out) | (with_reducible refine Below.alloc ?_ ?_ _) | (with_reducible refine Below.setCell ?_ ?_ _) | (with_reducible refine below_drew ?_) | omega | (simp; done) | (simp; omega)))⟩
        have := HBk.out.set_ j (i64 ((r * 1000000 + x) / 2))
        rw [HS.out] at this
        exact this
      case measure => simp [intOf] <;> omega
    · obtain rfl : k = 0 := by omega
      obtain rfl : i = -1 := by omega
      have HR := Lib.hid (show r = remL xs by rw [hr.out]; rfl)
      have RQ := Lib.hid (show RdI wr (some ⟨w.heap.size, 0, none⟩) n (quoL xs) by
        have h := HBk.out
        rw [halfTo_zero] at h
        exact h.rd (List.take_of_length_le (by simp [quoL_len, HL.out])) (by simp [quoL_len, HL.out]))
      clear hblk hb hi
      go_wp2_with (go_at_call 97; refine (l02Trim_c _ _ _ (quoL xs) _ RQ.out (by omega) (by omega)).mono ?_; rintro e w' ⟨rfl, rfl⟩)
      go_ret2
      refine ⟨some ⟨w.heap.size, 0, none⟩, n, by rw [← HR.out]; rfl, ?_, HB.out⟩
      have h := HBk.out
      rw [halfTo_zero] at h
      have hw : Wr wr w.heap.size wr.heap.size (some ⟨w.heap.size, 0, none⟩) n ((quoL xs).map i64) := h.wr (Nat.le_refl _) h.lt (List.take_of_length_le (by simp [quoL_len, HL.out])) (by simp [quoL_len, HL.out])
      have hw2 := hw.take (k := (trimL (quoL xs)).length) (by have := trimL_len (quoL xs); rw [quoL_len, HL.out] at this; omega)
      rw [← List.map_take, ← trimL_take] at hw2
      exact hw2
set_option maxHeartbeats 1000000 in
theorem sSignedOf_c (A : Option Addr) (n c : Nat) (xs : List Int) (w : World) (h : RdI w A n xs) (hn : n ≤ 1000000000000) :
    Calls Try.prog 52 #[.slice A n c] w (SignOut (signR xs) w) := by
  have HL := Lib.hid h.len
  have H := Lib.hid h; clear h
  cases h1 : natB xs
  · have HR := Lib.hid (show signR xs = ((false, []), 1) by simp [signR, h1])
    go_enter Try.func52, Try.ntmps52
    go_wp2_with fail
    refine (l02Is_c _ _ _ xs _ H.out hn).mono ?_
    rintro e w1 ⟨rfl, rfl⟩
    rw [h1]
    go_wp2
    go_ret3
    exact ⟨none, 0, 0, by rw [HR.out]; rfl, by rw [HR.out]; exact Wr.nil, by omega, below_size⟩
  have p1 := natB_parts h1
  have hs1 : n ≤ 40 := by rw [← HL.out]; exact p1.1
  have X1 := Lib.hid p1.2.1
  have HN := Lib.hid (half_nat h1)
  have hlq : (trimL (quoL xs)).length ≤ 40 := by have := trimL_len (quoL xs); rw [quoL_len, HL.out] at this; omega
  by_cases hodd : remL xs = 1
  · have HR := Lib.hid (show signR xs = ((true, carL (sumL (trimL (quoL xs)) [1]) 0), 0) by simp [signR, h1, hodd])
    have hlen : (carL (sumL (trimL (quoL xs)) [1]) 0).length ≤ 1000000 := inc_len HN.out
    clear p1
    go_enter Try.func52, Try.ntmps52
    go_wp2_with fail
    refine (l02Is_c _ _ _ xs _ H.out hn).mono ?_
    rintro e w1 ⟨rfl, rfl⟩
    rw [h1]
    go_wp2_with fail
    refine (l02By_c _ _ _ xs _ H.out (by omega) X1.out).mono ?_
    rintro e w1 ⟨B, d, rfl, q, hb⟩
    rw [hodd]
    go_wp2_with fail
    refine (l02Add_c _ _ _ _ _ _ (trimL (quoL xs)) [1] _ (by exact (q.alloc _).rdI) (by exact (Blk.new w1 _ _).rd rfl (by simp)) hlq (by omega) (by exact trimL_limbs (halves xs X1.out).2) (by simp)).mono ?_
    rintro e w2 ⟨B2, d2, rfl, q2, hb2⟩
    have hz := hb.size
    go_wp2
    go_ret3
    refine ⟨B2, _, d2, by rw [HR.out]; rfl, by rw [HR.out]; exact q2.wider (by simp; omega) (Nat.le_refl _), by omega, below_chain hb hz (up1 hb2)⟩
  · have HR := Lib.hid (show signR xs = ((false, trimL (quoL xs)), 0) by simp [signR, h1, hodd])
    have he : remL xs = 0 := by have := remL_bd xs; omega
    clear p1
    go_enter Try.func52, Try.ntmps52
    go_wp2_with fail
    refine (l02Is_c _ _ _ xs _ H.out hn).mono ?_
    rintro e w1 ⟨rfl, rfl⟩
    rw [h1]
    go_wp2_with fail
    refine (l02By_c _ _ _ xs _ H.out (by omega) X1.out).mono ?_
    rintro e w1 ⟨B, d, rfl, q, hb⟩
    rw [he]
    go_wp2
    go_ret3
    refine ⟨B, _, d, by rw [HR.out]; rfl, by rw [HR.out]; exact q, by omega, hb⟩
theorem one_c (w : World) : Calls Try.prog 85 #[] w fun e w' => e = .returned (.slice (some ⟨w.heap.size, 0, none⟩) 1 1) ∧ RdI w' (some ⟨w.heap.size, 0, none⟩) 1 [1] ∧ Below w.heap.size w w' := by
  go_enter Try.func85, Try.ntmps85
  go_wp2
  go_ret
  exact ⟨rfl, (Blk.new w _ _).rd rfl (by simp), below_size.alloc (Nat.le_refl _) _⟩
set_option maxHeartbeats 1000000 in
theorem iSignedOf_c (A : Option Addr) (n c : Nat) (xs : List Int) (w : World) (h : RdI w A n xs) (hn : n ≤ 1000000000000) :
    Calls Try.prog 53 #[.slice A n c] w (SignOut (signR xs) w) := by
  have HL := Lib.hid h.len
  have H := Lib.hid h; clear h
  cases h1 : natB xs
  · have HR := Lib.hid (show signR xs = ((false, []), 1) by simp [signR, h1])
    go_enter Try.func53, Try.ntmps53
    go_wp2_with fail
    refine (iIsNatural_c _ _ _ xs _ H.out hn).mono ?_
    rintro e w1 ⟨rfl, rfl⟩
    rw [h1]
    go_wp2
    go_ret3
    exact ⟨none, 0, 0, by rw [HR.out]; rfl, by rw [HR.out]; exact Wr.nil, by omega, below_size⟩
  have p1 := natB_parts h1
  have hs1 : n ≤ 40 := by rw [← HL.out]; exact p1.1
  have X1 := Lib.hid p1.2.1
  have hl1 : (carL (sumL xs [1]) 0).length ≤ 1000 := inc_len' h1
  obtain ⟨s1, s2⟩ := sign_law h1
  have HR := Lib.hid (show signR xs = ((remL (carL (sumL xs [1]) 0) == 0, trimL (quoL (carL (sumL xs [1]) 0))), 0) by rw [s1, s2]; simp [signR, h1])
  have HT := Lib.hid (add_trim h1 one_nat)
  have HM := Lib.hid (inc_val h1).2.1
  clear p1 s1 s2
  go_enter Try.func53, Try.ntmps53
  go_wp2_with fail
  refine (iIsNatural_c _ _ _ xs _ H.out hn).mono ?_
  rintro e w1 ⟨rfl, rfl⟩
  rw [h1]
  go_wp2_with fail
  refine (one_c _).mono ?_
  rintro e w1 ⟨rfl, r1, hb1⟩
  have hz1 := hb1.size
  go_wp2_with fail
  refine (add_c _ _ _ _ _ _ xs [1] _ (H.out.below hb1) r1 hs1 (by omega) X1.out (by simp)).mono ?_
  rintro e w2 ⟨B, d, rfl, q, hb2⟩
  rw [HT.out] at q ⊢
  have hz2 := hb2.size
  obtain ⟨zs, hzs⟩ : ∃ zs, zs = carL (sumL xs [1]) 0 := ⟨_, rfl⟩
  rw [← hzs] at HR HM q hl1 ⊢
  clear hzs HT
  go_wp2_with fail
  refine (divideSmall_c _ _ _ zs _ q.rdI hl1 HM.out).mono ?_
  rintro e w3 ⟨B3, d3, rfl, q3, hb3⟩
  have hz3 := hb3.size
  have hlq : (trimL (quoL zs)).length ≤ 1000 := by have := trimL_len (quoL zs); rw [quoL_len] at this; omega
  go_wp2
  go_ret3
  refine ⟨B3, _, d3, by rw [HR.out]; rfl, by rw [HR.out]; exact q3.wider (by omega) (Nat.le_refl _), by omega, below_chain (below_chain hb1 hz1 hb2) (by omega) hb3⟩
end Go.Proofs.Ytbpeagnldgefeaa
