/-
  slices.Compare of numbers: the lexicographic order.
-/
import Derived.Test.YtmmgejnhfpfmnaaBase
import Derived.Test.YtmmgejnhfpfmnaaShelf
namespace Go.Proofs.Ytmmgejnhfpfmnaa
open Go.RowKit

def cmpL : List Int → List Int → Int
  | [], [] => 0
  | [], _ :: _ => -1
  | _ :: _, [] => 1
  | x :: xs, y :: ys => if Lib.compareInt x y = 0 then cmpL xs ys else Lib.compareInt x y
theorem cmpL_on {xs ys : List Int} {k : Nat} {x y : Int} (h : xs[k]? = some x) (h' : ys[k]? = some y) : cmpL (xs.drop k) (ys.drop k) = if Lib.compareInt x y = 0 then cmpL (xs.drop (k + 1)) (ys.drop (k + 1)) else Lib.compareInt x y := by
  rw [drop_at h, drop_at h', cmpL]
set_option maxHeartbeats 1000000 in
theorem compareI_c (A A' : Option Addr) (n n' c c' : Nat) (xs ys : List Int) (w : World) (h : RdI w A n xs) (h' : RdI w A' n' ys) (hn : n ≤ 1000000000) (hn' : n' ≤ 1000000000) :
    Calls Try.prog 64 #[.slice A n c, .slice A' n' c'] w fun e w' => e = .returned (.int .i64 (cmpL xs ys)) ∧ w = w' := by
  have HL := Lib.hid h.len; have HL' := Lib.hid h'.len
  have H := Lib.hid h; have H' := Lib.hid h'
  clear h h'
  obtain ⟨R, hR⟩ : ∃ R, cmpL xs ys = R := ⟨_, rfl⟩
  rw [hR]
  have HR := Lib.hid hR; clear hR
  go_enter Try.func64, Try.ntmps64
  go_wp2_with fail
  go_loopw [4, 11] (fun r i wr => ∃ k : Nat, k ≤ n ∧ k ≤ n' ∧ r = .int .i64 0 ∧ i = .int .i64 k ∧ Hid (cmpL (xs.drop k) (ys.drop k) = R) ∧ w = wr) (fun _ i _ => n - (intOf i).toNat)
  case atStart => exact ⟨0, by omega, by omega, rfl, rfl, HR.out, rfl⟩
  case round =>
    obtain ⟨k, hk, hk', rfl, rfl, hc, rfl⟩ := hrel
    by_cases hlt : k < n
    · obtain ⟨ad, x, rfl, hab, hx, hcx⟩ := H.out.at_ hlt
      have HX := Lib.hid hx
      by_cases hlt' : k < n'
      · obtain ⟨ad', y, rfl, hab', hy, hcy⟩ := H'.out.at_ hlt'
        have HC := Lib.hid (cmpL_on hx hy)
        have kge : decide ((n' : Int) ≤ (k : Int)) = false := decide_eq_false (by omega)
        clear hx hy
        obtain ⟨v, hv⟩ : ∃ v, Lib.compareInt x y = v := ⟨_, rfl⟩
        have HV := Lib.hid hv
        have hcc := Try.cmp_Compare_int x y w
        rw [hv] at hcc
        have HCC := Lib.hid hcc
        clear hcc hv
        go_wp2_with fail
        refine HCC.out.mono ?_
        rintro e w' ⟨rfl, rfl⟩
        by_cases hv0 : v = 0
        · have HN := Lib.hid (show cmpL (xs.drop (k + 1)) (ys.drop (k + 1)) = R by rw [← hc.out, HC.out, if_pos (by rw [HV.out]; exact hv0)])
          have kv : (v != 0) = false := by simp [hv0]
          have vk : IntKind.i64.wrap ((k : Int) + 1) = (k : Int) + 1 := IntWalk.i64_in _ (by omega)
          clear hv0 HCC HC hc
          go_wp2_with fail
          go_roundw
          case rel => exact ⟨k + 1, by omega, by omega, rfl, by go_num, HN.out, by first | rfl | trivial⟩
          case measure => simp [intOf]; omega
        · have HN := Lib.hid (show v = R by rw [← hc.out, HC.out, if_neg (by rw [HV.out]; exact hv0)]; exact HV.out.symm)
          have kv : (v != 0) = true := by simpa using hv0
          clear hv0 HCC HC hc
          go_wp2_with fail
          go_ret
          exact ⟨congrArg (fun z => Ending.returned (Value.int .i64 z)) HN.out, by first | rfl | trivial⟩
      · have HN := Lib.hid (show (1 : Int) = R by rw [← hc.out, drop_at HX.out, show ys.drop k = [] from List.drop_eq_nil_of_le (by rw [HL'.out]; omega)]; rfl)
        have kge : decide ((n' : Int) ≤ (k : Int)) = true := decide_eq_true (by omega)
        clear hx hc
        go_wp2_with fail
        go_ret
        exact ⟨congrArg (fun z => Ending.returned (Value.int .i64 z)) HN.out, by first | rfl | trivial⟩
    · by_cases hnn : n < n'
      · have HN := Lib.hid (show (-1 : Int) = R by
          obtain ⟨y, hy⟩ : ∃ y, ys[k]? = some y := ⟨_, List.getElem?_eq_getElem (by rw [HL'.out]; omega)⟩
          rw [← hc.out, show xs.drop k = [] from List.drop_eq_nil_of_le (by rw [HL.out]; omega), drop_at hy]; rfl)
        clear hc
        go_wp2_with fail
        go_ret
        exact ⟨congrArg (fun z => Ending.returned (Value.int .i64 z)) HN.out, by first | rfl | trivial⟩
      · have HN := Lib.hid (show (0 : Int) = R by rw [← hc.out, show xs.drop k = [] from List.drop_eq_nil_of_le (by rw [HL.out]; omega), show ys.drop k = [] from List.drop_eq_nil_of_le (by rw [HL'.out]; omega)]; rfl)
        clear hc
        go_wp2_with fail
        go_ret
        exact ⟨congrArg (fun z => Ending.returned (Value.int .i64 z)) HN.out, by first | rfl | trivial⟩
end Go.Proofs.Ytmmgejnhfpfmnaa
