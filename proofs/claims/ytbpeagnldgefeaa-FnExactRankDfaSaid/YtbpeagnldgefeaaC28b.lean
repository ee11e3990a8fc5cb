/-
  Contracts of chapter 28 (automata): RankDfa.
-/
import Derived.Test.YtbpeagnldgefeaaC28
namespace Go.Proofs.Ytbpeagnldgefeaa
open Go.RowKit

def rankF (st : Int) : List Int → Int → Option Int
  | [], acc => some acc
  | x :: xs, acc => if 1000000000000 < acc * st + x then none else rankF st xs (acc * st + x)
def rankV (o : Option Int) : Int := match o with | none => 0 | some r => r
def rankC (o : Option Int) : Int := match o with | none => 5 | some _ => 0
def rankR (st sym : Int) (xs : List Int) : Int × Int :=
  if dfaB st sym xs = true then (rankV (rankF st (xs.drop 1) 0), rankC (rankF st (xs.drop 1) 0)) else (0, 1)
theorem rank_head {st : Int} {xs : List Int} (h : headB xs = true) : rankF st xs 0 = rankF st (xs.drop 1) 0 := by
  cases xs with
  | nil => rfl
  | cons x xs =>
    have : x = 0 := by simpa [headB] using h
    subst this
    simp [rankF]
theorem rank_bd {acc st : Int} (h1 : 1 ≤ st ∧ st ≤ 20) (h0 : 0 ≤ acc) (h2 : acc ≤ 1000000000000) : 0 ≤ acc * st ∧ acc * st ≤ 20000000000000 := by
  have h3 := Int.mul_le_mul (a := acc) (b := st) (c := 1000000000000) (d := 20) (by omega) (by omega) (by omega) (by omega)
  have h4 := Int.mul_nonneg h0 (show 0 ≤ st by omega)
  omega

set_option maxHeartbeats 1000000 in
theorem sRankDfa_c (st sym : Int) (A : Option Addr) (n c : Nat) (xs : List Int) (w : World) (h : RdI w A n xs) (hn : n ≤ 1000000000000) :
    Calls Try.prog 28 #[.agg #[.int .i64 st, .slice A n c], .int .i64 sym] w fun e w' => e = .returned (.tuple #[.int .i64 (rankR st sym xs).1, .int .i64 (rankR st sym xs).2]) ∧ Below w.heap.size w w' := by
  have HL := Lib.hid h.len
  have H := Lib.hid h; clear h
  cases hd : dfaB st sym xs
  · have HR := Lib.hid (show rankR st sym xs = (0, 1) by simp [rankR, hd])
    go_enter Try.func28, Try.ntmps28
    go_wp2_with (go_at_call 59; refine (l28Is_c _ st _ A n c xs _ (by simp) (by simp) (by exact H.out.alloc _) hn).mono ?_; rintro e w' ⟨rfl, hq⟩)
    go_ret2
    exact ⟨by rw [HR.out]; rfl, (below_size.alloc (Nat.le_refl _) _).trans (hq.below _)⟩
  · obtain ⟨hsym, hst, hlen, hhd, hall⟩ := dfaB_parts hd
    have HR := Lib.hid (show rankR st sym xs = (rankV (rankF st (xs.drop 1) 0), rankC (rankF st (xs.drop 1) 0)) by simp [rankR, hd])
    have HA := Lib.hid hall
    have hm := mul_bd hsym hst
    have hn0 : 0 < n := by have := HL.out; omega
    clear hall hlen hhd hm
    go_enter Try.func28, Try.ntmps28
    go_wp2_with (go_at_call 59; refine (l28Is_c _ st _ A n c xs _ (by simp) (by simp) (by exact H.out.alloc _) hn).mono ?_; rintro e w' ⟨rfl, hq⟩)
    obtain ⟨m, rfl⟩ := hq
    go_loopw [6, 7] (fun q i wr => ∃ (k : Nat) (acc : Int), 1 ≤ k ∧ k ≤ n ∧ i = .int .i64 k ∧ q = .int .i64 acc ∧ 0 ≤ acc ∧ acc ≤ 1000000000000 ∧ Hid (rankF st (xs.drop 1) 0 = rankF st (xs.drop k) acc) ∧ Qt (w.alloc (.cells #[.int .i64 st, .slice A n c] 29)) wr) (fun _ i _ => n - (intOf i).toNat)
    case atStart => exact ⟨1, 0, by omega, by omega, rfl, rfl, by omega, by omega, rfl, (by first | exact Qt.refl _ | exact ⟨_, rfl⟩ | exact Qt.drewN ⟨_, rfl⟩ _)⟩
    case round =>
      obtain ⟨k, acc, hk1, hk, rfl, rfl, ha0, ha1, hr, hq⟩ := hrel
      obtain ⟨m', rfl⟩ := hq
      have hmul := rank_bd hst ha0 ha1
      by_cases hlt : k < n
      · obtain ⟨ad, x, rfl, hab, hx, hc⟩ := H.out.at_ hlt
        have hxb := HA.out x (List.mem_of_getElem? hx)
        have hc' : ∀ o, (w.alloc o).cell? (ad.add k) = some (.int .i64 x) := fun o => keepa o hc
        have Hx := Lib.hid hx; clear hx
        by_cases hbig : 1000000000000 < acc * st + x
        · have HF := Lib.hid (show rankF st (xs.drop 1) 0 = none by rw [hr.out, drop_at Hx.out, rankF, if_pos hbig])
          go_wp2
          go_quiet (fail)
          go_wp2
          go_ret2
          exact ⟨by rw [HR.out, HF.out]; rfl, (below_size.alloc (Nat.le_refl _) _).trans (Qt.below (by first | exact Qt.refl _ | exact ⟨_, rfl⟩ | exact Qt.drewN ⟨_, rfl⟩ _) _)⟩
        · have HF := Lib.hid (show rankF st (xs.drop 1) 0 = rankF st (xs.drop (k + 1)) (acc * st + x) by rw [hr.out, drop_at Hx.out, rankF, if_neg hbig])
          go_wp2
          go_quiet (fail)
          go_wp2
          go_roundw
          case rel => exact ⟨k + 1, acc * st + x, by omega, by omega, by go_num, rfl, by omega, by omega, HF.out, (by first | exact Qt.refl _ | exact ⟨_, rfl⟩ | exact Qt.drewN ⟨_, rfl⟩ _)⟩
          case measure => simp [intOf]; omega
      · have HF := Lib.hid (show rankF st (xs.drop 1) 0 = some acc by rw [hr.out, List.drop_eq_nil_of_le (by rw [HL.out]; omega)]; rfl)
        go_wp2
        go_ret2
        exact ⟨by rw [HR.out, HF.out]; rfl, (below_size.alloc (Nat.le_refl _) _).trans (Qt.below (by first | exact Qt.refl _ | exact ⟨_, rfl⟩ | exact Qt.drewN ⟨_, rfl⟩ _) _)⟩

set_option maxHeartbeats 1000000 in
theorem iRankDfa_c (st sym : Int) (A : Option Addr) (n c : Nat) (xs : List Int) (w : World) (h : RdI w A n xs) (hn : n ≤ 1000000000000) :
    Calls Try.prog 29 #[.agg #[.int .i64 st, .slice A n c], .int .i64 sym] w fun e w' => e = .returned (.tuple #[.int .i64 (rankR st sym xs).1, .int .i64 (rankR st sym xs).2]) ∧ Below w.heap.size w w' := by
  have HL := Lib.hid h.len
  have H := Lib.hid h; clear h
  cases hd : dfaB st sym xs
  · have HR := Lib.hid (show rankR st sym xs = (0, 1) by simp [rankR, hd])
    go_enter Try.func29, Try.ntmps29
    go_wp2_with (go_at_call 20; refine (iValidDfa_c st _ A n c xs _ (by exact H.out.alloc _) hn).mono ?_; rintro e w' ⟨rfl, hb⟩)
    go_ret2
    exact ⟨by rw [HR.out]; rfl, (below_size.alloc (Nat.le_refl _) _).trans (hb.mono (by simp))⟩
  · obtain ⟨hsym, hst, hlen, hhd, hall⟩ := dfaB_parts hd
    have HR := Lib.hid (show rankR st sym xs = (rankV (rankF st xs 0), rankC (rankF st xs 0)) by rw [rank_head hhd]; simp [rankR, hd])
    have HA := Lib.hid hall
    clear hall hlen hhd
    go_enter Try.func29, Try.ntmps29
    go_wp2_with fail
    refine (iValidDfa_c st _ A n c xs _ (by exact H.out.alloc _) hn).mono ?_
    rintro e w1 ⟨rfl, hb⟩
    have a0 : w1.cell? ⟨w.heap.size, 0, none⟩ = some (.int .i64 st) := keepc hb (new_cell _ _ _ 0)
    have a1 : w1.cell? ⟨w.heap.size, 1, none⟩ = some (.slice A n c) := keepc hb (new_cell _ _ _ 1)
    have R := Lib.hid ((H.out.alloc _).below hb)
    have B := Lib.hid ((below_size.alloc (Nat.le_refl _) _).trans (hb.mono (by simp)))
    clear hb
    go_wp2
    go_loop [6, 16] (fun q i => ∃ (k : Nat) (acc : Int), k ≤ n ∧ i = .int .i64 k ∧ q = .int .i64 acc ∧ 0 ≤ acc ∧ acc ≤ 1000000000000 ∧ Hid (rankF st xs 0 = rankF st (xs.drop k) acc)) (fun _ i => n - (intOf i).toNat)
    case atStart => exact ⟨0, 0, by omega, rfl, rfl, by omega, by omega, rfl⟩
    case round =>
      obtain ⟨k, acc, hk, rfl, rfl, ha0, ha1, hr⟩ := hrel
      have hmul := rank_bd hst ha0 ha1
      by_cases hlt : k < n
      · obtain ⟨ad, x, rfl, hab, hx, hc⟩ := R.out.at_ hlt
        have hxb := HA.out x (List.mem_of_getElem? hx)
        have Hx := Lib.hid hx; clear hx
        by_cases hbig : 1000000000000 < acc * st + x
        · have HF := Lib.hid (show rankF st xs 0 = none by rw [hr.out, drop_at Hx.out, rankF, if_pos hbig])
          go_wp2
          go_ret2
          exact ⟨by rw [HR.out, HF.out]; rfl, B.out⟩
        · have HF := Lib.hid (show rankF st xs 0 = rankF st (xs.drop (k + 1)) (acc * st + x) by rw [hr.out, drop_at Hx.out, rankF, if_neg hbig])
          go_wp2
          go_round
          case rel => exact ⟨k + 1, acc * st + x, by omega, by go_num, rfl, by omega, by omega, HF.out⟩
          case measure => simp [intOf]; omega
      · have HF := Lib.hid (show rankF st xs 0 = some acc by rw [hr.out, List.drop_eq_nil_of_le (by rw [HL.out]; omega)]; rfl)
        go_wp2
        go_ret2
        exact ⟨by rw [HR.out, HF.out]; rfl, B.out⟩
end Go.Proofs.Ytbpeagnldgefeaa
