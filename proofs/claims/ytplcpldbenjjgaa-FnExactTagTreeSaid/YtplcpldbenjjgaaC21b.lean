/-
  Contracts of chapter 21 (trees): TreeAt of the program.
-/
import Derived.Test.YtplcpldbenjjgaaC21
namespace Go.Proofs.Ytplcpldbenjjgaa
open Go.RowKit

theorem info_boolS : (Try.prog.info? 4).map (fun i => (i.zero, i.size, i.bytes)) = some (some (.bool false), 1, 1) := by kernel_rfl

set_option maxHeartbeats 2000000 in
set_option maxRecDepth 100000 in
theorem treeAt_c (x : Int) (w : World) (h0 : 0 ≤ x) (h1 : x ≤ 1000000000000) :
    Calls Try.prog 77 #[.int .i64 x] w fun e w' => ∃ A n c, e = .returned (.slice A n c) ∧ Wr w' w.heap.size w'.heap.size A n ((treeL x).map Value.bool) ∧ n ≤ 1000000 ∧ Below w.heap.size w w' := by
  have hmm := @run_makeMap Try.prog
  go_enter Try.func77, Try.ntmps77
  go_wp2_with fail
  clear hmm
  go_loopw [0, 4] (fun xv nv wr => ∃ (f : Nat) (r : Int) (n : Nat) (m : List ((Int × Int) × Int)), xv = .int .i64 r ∧ nv = .int .i64 n ∧ 0 ≤ r ∧ r ≤ 1000000000000 ∧ n + 2 * f = 51 ∧ 1 ≤ f ∧ Hid (szR 25 x 1 = szR f r n) ∧ Memo wr w.heap.size m ∧ Below w.heap.size w wr) (fun _ nv _ => 51 - (intOf nv).toNat)
  case atStart =>
    exact ⟨25, x, 1, [], rfl, rfl, h0, h1, by omega, by omega, rfl, ⟨MapAt.new _ _ _, MemoOk.nil⟩, below_size.alloc (Nat.le_refl _) _⟩
  case round =>
    obtain ⟨f, r, n, m, rfl, rfl, hr0, hr1, hnf, hf, hr, hm, hb⟩ := hrel
    have HB := Lib.hid hb; clear hb
    go_wp2_with fail
    refine (count_c 100 n 1 w.heap.size m _ (by omega) (by omega) (by omega) hm).mono ?_
    rintro e w1 ⟨rfl, ⟨m1, hm1, _⟩, hk1⟩
    have hbd := W_bd n 1
    have HB1 := Lib.hid (HB.out.trans (hk1.below (Nat.le_refl _) HB.out.size))
    clear hk1 hm
    by_cases hle : (W n 1 : Int) ≤ r
    · have hf2 : 2 ≤ f := by
        rcases Nat.lt_or_ge f 2 with h | h
        · have : n = 49 := by omega
          subst this
          rw [W_end] at hle
          unfold capW at hle; omega
        · exact h
      have HS := Lib.hid (show szR 25 x 1 = szR (f - 1) (r - W n 1) (n + 2) by rw [hr.out, show f = f - 1 + 1 by omega, szR_go hle, Nat.add_sub_cancel])
      go_wp2_with fail
      refine (count_c 100 n 1 w.heap.size m1 _ (by omega) (by omega) (by omega) hm1).mono ?_
      rintro e w2 ⟨rfl, ⟨m2, hm2, _⟩, hk2⟩
      have HB2 := Lib.hid (HB1.out.trans (hk2.below (Nat.le_refl _) HB1.out.size))
      have HM2 := Lib.hid hm2
      clear hk2 hm1 hm2
      obtain ⟨hb0, hb1⟩ := hbd
      go_wp2_with fail
      go_roundw
      case rel => exact ⟨f - 1, r - W n 1, n + 2, m2, rfl, by go_num, by omega, by omega, by omega, by omega, HS.out, HM2.out, HB2.out⟩
      case measure => simp [intOf]; omega
    · have HS := Lib.hid (show szR 25 x 1 = (n, r) by rw [hr.out, show f = f - 1 + 1 by omega, szR_stop hle])
      have HT := Lib.hid (show treeL x = bld n r 1 by rw [treeL, HS.out])
      have hlt : r < W n 1 := by omega
      have HR := Lib.hid hlt
      have HM := Lib.hid hm1
      have hgl := hm1.1.lt
      clear hm1 hr HS
      go_wp2_with fail
      go_loopw [0, 5, 6, 7] (fun xv tv ov lv wr => ∃ (l k : Nat) (r : Int) (m : List ((Int × Int) × Int)) (C : Option Addr) (q cc : Nat) (acc : List Bool), xv = .int .i64 r ∧ tv = .slice C q cc ∧ ov = .int .i64 k ∧ lv = .int .i64 ((l : Int) - 1) ∧
        l ≤ n ∧ q + l = n ∧ k ≤ q + 1 ∧ 0 ≤ r ∧ r ≤ 1000000000000 ∧ Hid (0 < l → r < W l k) ∧ Hid (treeL x = acc ++ bld l r k) ∧ Memo wr w.heap.size m ∧ Own wr (w.heap.size + 1) 4 1 C q cc (acc.map Value.bool) ∧ Below w.heap.size w wr ∧ w.heap.size + 1 ≤ wr.heap.size) (fun _ _ _ lv _ => (intOf lv + 1).toNat)
      case atStart =>
        refine ⟨n, 1, r, m1, _, 0, 0, [], rfl, rfl, rfl, rfl, by omega, by omega, by omega, hr0, hr1, fun _ => HR.out, HT.out, ⟨HM.out.1.alloc _, HM.out.2⟩, Own.lit (by omega), HB1.out.alloc HB1.out.size _, by simp; omega⟩
      case round =>
        obtain ⟨l, k, r, m, C, q, cc, acc, rfl, rfl, rfl, rfl, hl, hql, hk, hr0, hr1, hw, hr, hm, own, hb, hsz⟩ := hrel
        have HO := Lib.hid own; have HB := Lib.hid hb
        clear own hb
        by_cases hl0 : 0 < l
        · obtain ⟨j, rfl⟩ : ∃ j, l = j + 1 := ⟨l - 1, by omega⟩
          have hop := open_pos hr0 (hw.out (by omega))
          have ej : ((j + 1 : Nat) : Int) - 1 = (j : Int) := by omega
          have ek : ((k - 1 : Nat) : Int) = (k : Int) - 1 := by omega
          rw [ej]
          have HW := Lib.hid (hw.out (by omega))
          clear hw ej
          go_wp2_with fail
          rw [← ek]
          refine (count_c 100 j (k - 1) w.heap.size m _ (by omega) (by omega) (by omega) hm).mono ?_
          rintro e w1 ⟨rfl, ⟨m1, hm1, _⟩, hk1⟩
          rw [ek]
          have HB1 := Lib.hid (HB.out.trans (hk1.below (Nat.le_refl _) HB.out.size))
          have HO1 := Lib.hid (HO.out.keepR hk1 (Nat.le_refl _))
          have hs1 := hk1.size
          have HM1 := Lib.hid hm1
          obtain ⟨hb0, hb1⟩ := W_bd j (k - 1)
          by_cases hle : (W j (k - 1) : Int) ≤ r
          · have HF := Lib.hid (show treeL x = (acc ++ [true]) ++ bld j (r - W j (k - 1)) (k + 1) by rw [hr.out, bld_true hle]; simp)
            have HV := Lib.hid (rank_true hop.1 HW.out)
            have hd : decide ((W j (k - 1) : Int) ≤ r) = true := by simpa using hle
            clear hk1 hm1 hm ek hr
            generalize (W j (k - 1) : Int) = a at *
            go_wp2_with (at_builtin; refine wp_app1 (by rfl) _ _ 22 4 (.bool false) 1 (by rfl) Try.underlying22 info_boolS rfl (w.heap.size + 1) C q cc (acc.map Value.bool) (by rfl) (by exact HO1.out.alloc _) w1.heap.size (.bool true) (by rfl) (by exact new_cell _ _ _ 0) rfl (by omega) (by omega) (by simp; omega) ?_; intro g' cap w2 own2 hb2 hk2 hg2 hz2)
            have O2 := Lib.hid own2; have HB2 := Lib.hid (hb2.mono (Nat.le_succ _)); have HM2 := Lib.hid ((HM1.out.1.alloc (.cells #[.bool true] 4)).below hb2 (by omega))
            clear own2 hb2 hk2 hg2
            go_wp2
            go_roundw
            case rel =>
              exact ⟨j, k + 1, r - a, m1, some ⟨g', 0, none⟩, q + 1, cap, acc ++ [true], rfl, rfl, by go_num, rfl, by omega, by omega, by omega, by omega, by omega, fun _ => HV.out, HF.out, ⟨HM2.out, HM1.out.2⟩, by rw [List.map_append]; exact O2.out, (HB1.out.alloc HB1.out.size _).trans HB2.out, by simp at hz2; omega⟩
            case measure => simp [intOf]
          · have HF := Lib.hid (show treeL x = (acc ++ [false]) ++ bld j r (k - 1) by rw [hr.out, bld_false hle]; simp)
            have HV := Lib.hid (show r < W j (k - 1) by omega)
            have hd : decide ((W j (k - 1) : Int) ≤ r) = false := by simpa using hle
            clear hk1 hm1 hm ek hr
            generalize hA : (W j (k - 1) : Int) = a at *
            have HA := Lib.hid hA; clear hA
            go_wp2_with (at_builtin; refine wp_app1 (by rfl) _ _ 22 4 (.bool false) 1 (by rfl) Try.underlying22 info_boolS rfl (w.heap.size + 1) C q cc (acc.map Value.bool) (by rfl) (by exact HO1.out.alloc _) w1.heap.size (.bool false) (by rfl) (by exact new_cell _ _ _ 0) rfl (by omega) (by omega) (by simp; omega) ?_; intro g' cap w2 own2 hb2 hk2 hg2 hz2)
            have O2 := Lib.hid own2; have HB2 := Lib.hid (hb2.mono (Nat.le_succ _)); have HM2 := Lib.hid ((HM1.out.1.alloc (.cells #[.bool false] 4)).below hb2 (by omega))
            clear own2 hb2 hk2 hg2
            go_wp2
            go_roundw
            case rel =>
              exact ⟨j, k - 1, r, m1, some ⟨g', 0, none⟩, q + 1, cap, acc ++ [false], rfl, rfl, by go_num, rfl, by omega, by omega, by omega, by omega, by omega, fun _ => by rw [HA.out]; exact HV.out, HF.out, ⟨HM2.out, HM1.out.2⟩, by rw [List.map_append]; exact O2.out, (HB1.out.alloc HB1.out.size _).trans HB2.out, by simp at hz2; omega⟩
            case measure => simp [intOf]
        · obtain rfl : l = 0 := by omega
          have HF := Lib.hid (show treeL x = acc by rw [hr.out]; simp [bld])
          clear hr hm
          go_wp2_with fail
          go_ret
          exact ⟨_, _, _, rfl, by rw [HF.out]; exact HO.out.wr.wider (by omega) (Nat.le_refl _), by omega, HB.out⟩
def treeR (x : Int) : List Bool × Int := if inB x 0 1000000000000 then (treeL x, 0) else ([], 2)
theorem iTreeAt_c (x : Int) (w : World) :
    Calls Try.prog 16 #[.int .i64 x] w fun e w' => ∃ A n c, e = .returned (.tuple #[.slice A n c, .int .i64 (treeR x).2]) ∧ Wr w' w.heap.size w'.heap.size A n ((treeR x).1.map Value.bool) ∧ n ≤ 1000000 ∧ Below w.heap.size w w' := by
  cases hx : inB x 0 1000000000000
  · have HR := Lib.hid (show treeR x = ([], 2) by simp [treeR, hx])
    go_enter Try.func16, Try.ntmps16
    go_wp2_with fail
    refine (within_b _ _ _ _ hx _).mono ?_
    rintro e w' ⟨rfl, rfl⟩
    go_wp2_with fail
    go_ret2
    rw [HR.out]
    exact ⟨_, _, _, rfl, Wr.nil, by omega, below_size⟩
  · have HR := Lib.hid (show treeR x = (treeL x, 0) by simp [treeR, hx])
    have hb := inB_t hx
    go_enter Try.func16, Try.ntmps16
    go_wp2_with fail
    refine (within_b _ _ _ _ hx _).mono ?_
    rintro e w' ⟨rfl, rfl⟩
    go_wp2_with fail
    refine (treeAt_c x _ hb.1 hb.2).mono ?_
    rintro e w1 ⟨A, n, c, rfl, hw, hn, hb1⟩
    have HW := Lib.hid hw; have HB := Lib.hid hb1
    clear hw hb1
    go_wp2_with fail
    go_ret2
    rw [HR.out]
    exact ⟨_, _, _, rfl, HW.out, hn, HB.out⟩
end Go.Proofs.Ytplcpldbenjjgaa
