/-
  Contracts of chapter 23: itemsOf, ItemsOf.
-/
import Derived.Test.YtbpeagnldgefeaaC23b
namespace Go.Proofs.Ytbpeagnldgefeaa
open Go.RowKit

theorem flatE_drop : ∀ (xs : List (Int × Int)) (k : Nat), flatE (xs.drop k) = (flatE xs).drop (k * 2)
  | xs, 0 => by simp
  | [], k + 1 => by simp [flatE]
  | x :: xs, k + 1 => by rw [List.drop_succ_cons, flatE_drop xs k, flatE, show (k + 1) * 2 = k * 2 + 1 + 1 by omega]; simp
theorem flatE_take : ∀ (xs : List (Int × Int)) (k : Nat), flatE (xs.take k) = (flatE xs).take (k * 2)
  | xs, 0 => by simp [flatE]
  | [], k + 1 => by simp [flatE]
  | x :: xs, k + 1 => by rw [List.take_succ_cons, flatE, flatE_take xs k, flatE, show (k + 1) * 2 = k * 2 + 1 + 1 by omega]; simp
theorem RdE.sub {w : World} {ad : Addr} {n : Nat} {xs : List (Int × Int)} (h : RdE w (some ad) n xs) (s : Nat × Nat) (hs : s.1 + s.2 ≤ n) : RdE w (some (ad.add (s.1 * 2))) s.2 (segL xs s) := by
  have hl := h.len
  refine ⟨by rw [flatE_len]; simp [segL]; omega, fun h0 => ?_⟩
  obtain ⟨ad', e, hlt, hc⟩ := h.2 (by omega)
  injection e with e
  subst e
  refine ⟨_, rfl, by rw [block_add]; exact hlt, fun j v hj => ?_⟩
  rw [segL, flatE_take, flatE_drop, List.getElem?_take] at hj
  split at hj
  · rw [List.getElem?_drop] at hj
    rw [add_add]
    exact hc _ v hj
  · cases hj

set_option maxHeartbeats 2000000 in
set_option maxRecDepth 100000 in
theorem itemsOf_c : ∀ (b : Nat) (ad : Addr) (n c : Nat) (xs : List (Int × Int)) (w : World) (_ : n ≤ b) (_ : RdE w (some ad) n xs) (_ : n ≤ 40) (_ : n ≤ c) (_ : scanB 1 xs = true),
    Calls Try.prog 80 #[.slice (some ad) n c] w fun e w' => e = .returned (.int .i64 (sumW xs)) ∧ Below w.heap.size w w' := by
  intro b
  induction b with
  | zero =>
    intro ad n c xs w hb h _ _ hs
    have := scan_pos hs
    rw [h.len] at this
    omega
  | succ b ih =>
    intro ad n c xs w hb h hn hnc hs
    have IH := Lib.hid ih; clear ih
    cases xs with
    | nil => simp [scanB] at hs
    | cons x l =>
    obtain ⟨p, q⟩ := x
    have hok : okE (p, q) = true := by
      simp only [scanB, Bool.and_eq_true] at hs; exact hs.2.1
    have hp := inB_t (show inB p 0 5 = true by simp only [okE, Bool.and_eq_true] at hok; exact hok.1)
    have H := Lib.hid h
    have HS := Lib.hid hs
    clear h hs hok
    have hcase : (manyK p = 0 ∧ wtK p = 1) ∨ (manyK p = 1 ∧ wtK p = 3) ∨ (manyK p = 2 ∧ wtK p = 2) := by
      have : p = 0 ∨ p = 1 ∨ p = 2 ∨ p = 3 ∨ p = 4 ∨ p = 5 := by omega
      rcases this with rfl | rfl | rfl | rfl | rfl | rfl <;> decide
    have HC := Lib.hid hcase
    clear hcase
    go_enter Try.func80, Try.ntmps80
    go_wp2_with fail
    refine (operands_c ad n c p q l _ H.out hn hnc HS.out).mono ?_
    rintro e w1 ⟨C, cc, segs, rfl, rd, ok, hsum, hb1⟩
    have HB := Lib.hid hb1
    have HT := Lib.hid (show sumW ((p, q) :: l) = wtK p + segSum ((p, q) :: l) segs by rw [← hsum]; rfl)
    have HLs := Lib.hid (show segs.length = manyK p by have := rd.1; simpa using this)
    have bdS := sumW_bd ((p, q) :: l)
    have HD := Lib.hid bdS
    have RD := Lib.hid rd; have OK := Lib.hid ok
    clear hb1 hsum rd ok bdS
    rcases HC.out with ⟨m0, t0⟩ | ⟨m1, t1⟩ | ⟨m2, t2⟩
    · have HV := Lib.hid (show sumW ((p, q) :: l) = 1 by
        have := HLs.out
        rw [m0] at this
        have := List.eq_nil_of_length_eq_zero this
        rw [HT.out, this, t0]; rfl)
      rw [m0]
      clear m0 t0
      go_wp2
      go_ret
      exact ⟨by rw [HV.out]; rfl, HB.out⟩
    · obtain ⟨s, hs⟩ : ∃ s, segs = [s] := by
        have := HLs.out
        rw [m1] at this
        exact List.length_eq_one_iff.1 this
      subst hs
      have HV := Lib.hid (show sumW ((p, q) :: l) = 2 + sumW (segL ((p, q) :: l) s) + 1 by rw [HT.out, t1]; simp only [segSum]; omega)
      obtain ⟨o1, o2, o3⟩ := OK.out s (by simp)
      have O3 := Lib.hid o3
      have R := RD.out
      rw [m1] at R ⊢
      obtain ⟨ac, e1, hlt, hcell⟩ := R.2 (by omega)
      subst e1
      have d0 := hcell 0 _ rfl
      rw [show ac.add 0 = ac by simp [Addr.add]] at d0
      unfold segV at d0
      have bd := sumW_bd (segL ((p, q) :: l) s)
      have hls : (segL ((p, q) :: l) s).length ≤ 40 := by simp [segL]; omega
      clear m1 t1 o3 R hcell
      go_wp2_with fail
      refine (IH.out (ad.add (s.1 * 2)) s.2 (c - s.1) (segL ((p, q) :: l) s) _ (by omega) (by exact (H.out.below HB.out).sub s o2) (by omega) (by omega) O3.out).mono ?_
      rintro e w2 ⟨rfl, hb2⟩
      go_wp2
      go_ret
      exact ⟨by rw [HV.out]; rfl, below_chain HB.out HB.out.size hb2⟩
    · obtain ⟨s, s', hs⟩ : ∃ s s', segs = [s, s'] := by
        have := HLs.out
        rw [m2] at this
        match segs, this with
        | [s, s'], _ => exact ⟨s, s', rfl⟩
      subst hs
      have HV := Lib.hid (show sumW ((p, q) :: l) = 2 + sumW (segL ((p, q) :: l) s) + sumW (segL ((p, q) :: l) s') by rw [HT.out, t2]; simp only [segSum]; omega)
      obtain ⟨o1, o2, o3⟩ := OK.out s (by simp)
      obtain ⟨o4, o5, o6⟩ := OK.out s' (by simp)
      have O3 := Lib.hid o3; have O6 := Lib.hid o6
      have R := RD.out
      rw [m2] at R ⊢
      obtain ⟨ac, e1, hlt, hcell⟩ := R.2 (by omega)
      subst e1
      have d0 := hcell 0 _ rfl
      have d1 := hcell 1 _ rfl
      rw [show ac.add 1 = ⟨ac.block, ac.off + 1, none⟩ by simp [Addr.add]] at d1
      rw [show ac.add 0 = ac by simp [Addr.add]] at d0
      unfold segV at d0 d1
      have bd := sumW_bd (segL ((p, q) :: l) s)
      have bd' := sumW_bd (segL ((p, q) :: l) s')
      have hls : (segL ((p, q) :: l) s).length ≤ 40 := by simp [segL]; omega
      have hls' : (segL ((p, q) :: l) s').length ≤ 40 := by simp [segL]; omega
      have D1 := Lib.hid d1
      clear m2 t2 o3 o6 R hcell d1
      go_wp2_with fail
      refine (IH.out (ad.add (s.1 * 2)) s.2 (c - s.1) (segL ((p, q) :: l) s) _ (by omega) (by exact (H.out.below HB.out).sub s o2) (by omega) (by omega) O3.out).mono ?_
      rintro e w2 ⟨rfl, hb2⟩
      have d1 := keepc hb2 D1.out
      have HB2 := Lib.hid (below_chain HB.out HB.out.size hb2)
      clear hb2
      go_wp2_with fail
      refine (IH.out (ad.add (s'.1 * 2)) s'.2 (c - s'.1) (segL ((p, q) :: l) s') _ (by omega) (by exact (H.out.below HB2.out).sub s' o5) (by omega) (by omega) O6.out).mono ?_
      rintro e w3 ⟨rfl, hb3⟩
      go_wp2
      go_ret
      exact ⟨by rw [HV.out]; rfl, below_chain HB2.out HB2.out.size hb3⟩
set_option maxHeartbeats 2000000 in
theorem iItemsOf_c (A : Option Addr) (n c : Nat) (xs : List (Int × Int)) (w : World) (h : RdE w A n xs) (hn : n ≤ 1000000000000) (hnc : n ≤ c) :
    Calls Try.prog 50 #[.slice A n c] w fun e w' => e = .returned (.tuple #[.int .i64 (itemR xs).1, .int .i64 (itemR xs).2]) ∧ Below w.heap.size w w' := by
  have HL := Lib.hid h.len
  have H := Lib.hid h; clear h
  cases hx : exprB xs
  · have HR := Lib.hid (show itemR xs = (0, 1) by simp [itemR, hx])
    go_enter Try.func50, Try.ntmps50
    go_wp2_with fail
    refine (iValidExpr_c _ _ _ xs _ H.out hn).mono ?_
    rintro e w1 ⟨rfl, hb⟩
    rw [hx]
    go_wp2
    go_ret2
    exact ⟨by rw [HR.out]; rfl, hb⟩
  have HR := Lib.hid (show itemR xs = (2 + sumW xs, 0) by simp [itemR, hx])
  have hx2 := hx
  simp only [exprB, Bool.and_eq_true, decide_eq_true_eq, HL.out] at hx2
  obtain ⟨x1, x2, x3⟩ := hx2
  have HS := Lib.hid x3
  obtain ⟨ad, _, rfl, _⟩ := H.out.at_ (show 0 < n by omega)
  have bd := sumW_bd xs
  have hl40 : xs.length ≤ 40 := by rw [HL.out]; exact x2
  clear x3
  go_enter Try.func50, Try.ntmps50
  go_wp2_with fail
  refine (iValidExpr_c _ _ _ xs _ H.out hn).mono ?_
  rintro e w1 ⟨rfl, hb⟩
  rw [hx]
  go_wp2_with fail
  refine (itemsOf_c n ad n c xs _ (Nat.le_refl _) (H.out.below hb) x2 hnc HS.out).mono ?_
  rintro e w2 ⟨rfl, hb2⟩
  go_wp2
  go_ret2
  exact ⟨by rw [HR.out]; rfl, below_chain hb hb.size hb2⟩
end Go.Proofs.Ytbpeagnldgefeaa
