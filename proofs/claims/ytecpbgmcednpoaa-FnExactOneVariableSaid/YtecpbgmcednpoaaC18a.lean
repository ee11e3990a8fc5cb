/-
  Contracts of chapter 18: numbers put in their places; names and applications of the reference.
-/
import Derived.Test.YtecpbgmcednpoaaP18c
import Derived.Test.YtecpbgmcednpoaaC12d
import Derived.Test.YtecpbgmcednpoaaConcat
namespace Go.Proofs.Ytecpbgmcednpoaa
open Go.RowKit

/-- numbers of the call's own, that may grow -/
def OwnOut (xs : List Int) (w : World) (e : Ending) (w' : World) : Prop := ∃ A c, e = .returned (.slice A xs.length c) ∧ Own w' w.heap.size 2 1 A xs.length c (xs.map i64) ∧ Below w.heap.size w w'
theorem Own.widen {w : World} {B B' : Nat} {e : TypeId} {size n c : Nat} {A : Option Addr} {vs : List Value} (h : Own w B e size A n c vs) (hB : B' ≤ B) : Own w B' e size A n c vs := by
  refine ⟨h.1, ?_⟩
  rcases h.2 with h1 | ⟨g, cap, cur, hv, h2, h3⟩
  · exact .inl h1
  · exact .inr ⟨g, cap, cur, hv, Nat.le_trans hB h2, h3⟩
set_option maxHeartbeats 4000000 in
set_option maxRecDepth 100000 in
theorem l00Put_c (A : Option Addr) (n c : Nat) (xs : List Int) (v : Int) (w : World) (h : RdI w A n xs) (hn : n ≤ 1000000) :
    Calls Try.prog 26 #[.slice A n c, .int .i64 v] w (OwnOut (putS v xs) w) := by
  have HL := Lib.hid h.len
  have H := Lib.hid h; clear h
  obtain ⟨R, hR⟩ : ∃ R, putS v xs = R := ⟨_, rfl⟩
  rw [hR]
  have HR := Lib.hid hR
  clear hR
  go_enter Try.func26, Try.ntmps26
  go_wp2_with fail
  go_loopw [5, 6, 7] (fun ov dv iv wr => ∃ (k m cc : Nat) (O : Option Addr) (acc : List Int) (d : Bool), k ≤ n ∧ m ≤ k + 1 ∧ (d = false → m ≤ k) ∧ iv = .int .i64 k ∧ dv = .bool d ∧ ov = .slice O m cc ∧ Hid (Own wr w.heap.size 2 1 O m cc (acc.map i64)) ∧ Hid (acc ++ (if d = true then xs.drop k else putS v (xs.drop k)) = R) ∧ Below w.heap.size w wr) (fun _ _ iv _ => n - (intOf iv).toNat)
  case atStart => exact ⟨0, 0, 0, some ⟨w.heap.size, 0, none⟩, [], false, by omega, by omega, fun _ => by omega, rfl, rfl, rfl, Own.lit (Nat.le_refl _), HR.out, below_size.alloc (Nat.le_refl _) _⟩
  case round =>
    obtain ⟨k, m, cc, O, acc, d, hk, hmk, hmd, rfl, rfl, rfl, hO, hr, hb⟩ := hrel
    have HB := Lib.hid hb
    have hwz := hb.size
    by_cases hlt : k < n
    · obtain ⟨ad, x, rfl, hab, hx, hc⟩ := (RdI.below H.out hb).at_ hlt
      have HX := Lib.hid hx
      clear hx hb
      cases d
      · have HS := Lib.hid (show acc ++ putS v (x :: xs.drop (k + 1)) = R by rw [← hr.out, drop_at HX.out]; rfl)
        clear hr
        by_cases hge : v ≤ x
        · have g1 : decide (v ≤ x) = true := by simpa using hge
          by_cases heq : x = v
          · subst heq
            have g2 : decide (x < x) = false := by simp
            have HG := Lib.hid (show (acc ++ [x]) ++ xs.drop (k + 1) = R by rw [← HS.out, putS, if_pos hge, if_pos rfl]; simp)
            clear HS
            go_wp2_with (at_builtin; refine wp_app1 (by rfl) _ _ 24 2 (.int .i64 0) 8 (by rfl) Try.underlying24 info_i64 rfl w.heap.size O m cc (acc.map i64) (by rfl) (by exact hO.out.alloc _) wr.heap.size (i64 x) (by rfl) (by exact new_cell _ _ _ 0) rfl (by omega) (by omega) (by simp; omega) ?_; intro g' cap w3 own3 hb3 hk3 hg3 hz3)
            have O3 := Lib.hid own3; have B3 := Lib.hid ((HB.out.alloc hwz _).trans hb3)
            clear own3 hb3 hk3 hg3 hz3
            go_wp2_with fail
            go_roundw
            case rel => exact ⟨k + 1, m + 1, cap, some ⟨g', 0, none⟩, acc ++ [x], true, by omega, by omega, (fun h => by cases h), by go_num, rfl, rfl, by unfold Hid; rw [List.map_append]; exact O3.out, HG.out, B3.out⟩
            case measure => simp [intOf]; omega
          · have g2 : decide (v < x) = true := by rw [decide_eq_true_eq]; omega
            have HG := Lib.hid (show (acc ++ [v] ++ [x]) ++ xs.drop (k + 1) = R by rw [← HS.out, putS, if_pos hge, if_neg heq]; simp)
            clear HS
            have hm1 := hmd rfl
            go_wp2_with (first
              | (at_builtin; refine wp_app1 (by rfl) _ _ 24 2 (.int .i64 0) 8 (by rfl) Try.underlying24 info_i64 rfl w.heap.size O m cc (acc.map i64) (by rfl) (by exact hO.out.alloc _) wr.heap.size (i64 v) (by rfl) (by exact new_cell _ _ _ 0) rfl (by omega) (by omega) (by simp; omega) ?_; intro g2 cap2 w2 own2 hb2 hk2 hg2 hz2; have O2 := Lib.hid own2; have B2 := Lib.hid ((HB.out.alloc hwz _).trans hb2); have hz22 := B2.out.size; have hc2 : w2.cell? (ad.add k) = some (.int .i64 x) := by obtain ⟨_, y, e, _, hy, hc'⟩ := (RdI.below H.out B2.out).at_ hlt; injection e with e; subst e; have := HX.out; rw [hy] at this; injection this with this; rw [← this]; exact hc')
              | (at_builtin; refine wp_app1 (by rfl) _ _ 24 2 (.int .i64 0) 8 (by rfl) Try.underlying24 info_i64 rfl w.heap.size (some ⟨g2, 0, none⟩) (m + 1) cap2 (acc.map i64 ++ [i64 v]) (by rfl) (by exact O2.out.alloc _) w2.heap.size (i64 x) (by rfl) (by exact new_cell _ _ _ 0) rfl (by omega) (by omega) (by simp; omega) ?_; intro g' cap w3 own3 hb3 hk3 hg3 hz3))
            have O3 := Lib.hid own3; have B3 := Lib.hid ((B2.out.alloc hz22 _).trans hb3)
            clear own3 hb3 hk3 hg3 hz3
            go_wp2_with fail
            go_roundw
            case rel => exact ⟨k + 1, m + 1 + 1, cap, some ⟨g', 0, none⟩, acc ++ [v] ++ [x], true, by omega, by omega, (fun h => by cases h), by go_num, rfl, rfl, by unfold Hid; rw [List.map_append, List.map_append]; exact O3.out, HG.out, B3.out⟩
            case measure => simp [intOf]; omega
        · have g1 : decide (v ≤ x) = false := by simpa using hge
          have HG := Lib.hid (show (acc ++ [x]) ++ putS v (xs.drop (k + 1)) = R by rw [← HS.out, putS, if_neg hge]; simp)
          clear HS
          go_wp2_with (at_builtin; refine wp_app1 (by rfl) _ _ 24 2 (.int .i64 0) 8 (by rfl) Try.underlying24 info_i64 rfl w.heap.size O m cc (acc.map i64) (by rfl) (by exact hO.out.alloc _) wr.heap.size (i64 x) (by rfl) (by exact new_cell _ _ _ 0) rfl (by omega) (by omega) (by simp; omega) ?_; intro g' cap w3 own3 hb3 hk3 hg3 hz3)
          have O3 := Lib.hid own3; have B3 := Lib.hid ((HB.out.alloc hwz _).trans hb3)
          clear own3 hb3 hk3 hg3 hz3
          go_wp2_with fail
          go_roundw
          case rel => exact ⟨k + 1, m + 1, cap, some ⟨g', 0, none⟩, acc ++ [x], false, by omega, by omega, (fun _ => by have := hmd rfl; omega), by go_num, rfl, rfl, by unfold Hid; rw [List.map_append]; exact O3.out, HG.out, B3.out⟩
          case measure => simp [intOf]; omega
      · have HG := Lib.hid (show (acc ++ [x]) ++ xs.drop (k + 1) = R by rw [← hr.out, drop_at HX.out]; simp)
        clear hr
        go_wp2_with (at_builtin; refine wp_app1 (by rfl) _ _ 24 2 (.int .i64 0) 8 (by rfl) Try.underlying24 info_i64 rfl w.heap.size O m cc (acc.map i64) (by rfl) (by exact hO.out.alloc _) wr.heap.size (i64 x) (by rfl) (by exact new_cell _ _ _ 0) rfl (by omega) (by omega) (by simp; omega) ?_; intro g' cap w3 own3 hb3 hk3 hg3 hz3)
        have O3 := Lib.hid own3; have B3 := Lib.hid ((HB.out.alloc hwz _).trans hb3)
        clear own3 hb3 hk3 hg3 hz3
        go_wp2_with fail
        go_roundw
        case rel => exact ⟨k + 1, m + 1, cap, some ⟨g', 0, none⟩, acc ++ [x], true, by omega, by omega, (fun h => by cases h), by go_num, rfl, rfl, by unfold Hid; rw [List.map_append]; exact O3.out, HG.out, B3.out⟩
        case measure => simp [intOf]; omega
    · obtain rfl : k = n := by omega
      have HE := Lib.hid (show xs.drop k = [] from List.drop_eq_nil_of_le (by rw [HL.out]; exact Nat.le_refl _))
      clear hb
      cases d
      · have HG := Lib.hid (show acc ++ [v] = R by rw [← hr.out, HE.out]; rfl)
        have hm1 := hmd rfl
        clear hr
        go_wp2_with (at_builtin; refine wp_app1 (by rfl) _ _ 24 2 (.int .i64 0) 8 (by rfl) Try.underlying24 info_i64 rfl w.heap.size O m cc (acc.map i64) (by rfl) (by exact hO.out.alloc _) wr.heap.size (i64 v) (by rfl) (by exact new_cell _ _ _ 0) rfl (by omega) (by omega) (by simp; omega) ?_; intro g' cap w3 own3 hb3 hk3 hg3 hz3)
        have O3 := Lib.hid (show Own w3 w.heap.size 2 1 (some ⟨g', 0, none⟩) (m + 1) cap (R.map i64) by rw [← HG.out, List.map_append]; exact own3)
        have B3 := Lib.hid ((HB.out.alloc hwz _).trans hb3)
        clear own3 hb3 hk3 hg3 hz3
        have hl := O3.out.wr.rdI.len
        go_wp2_with fail
        go_ret
        exact ⟨some ⟨g', 0, none⟩, cap, by rw [hl]; rfl, by rw [hl]; exact O3.out, B3.out⟩
      · have HG := Lib.hid (show acc = R by rw [← hr.out, HE.out]; simp)
        clear hr
        have O3 := Lib.hid (show Own wr w.heap.size 2 1 O m cc (R.map i64) by rw [← HG.out]; exact hO.out)
        have hl := O3.out.wr.rdI.len
        go_wp2_with fail
        go_ret
        exact ⟨O, cc, by rw [hl]; rfl, by rw [hl]; exact O3.out, HB.out⟩
theorem Own.fullK {w : World} {B k m : Nat} {e : TypeId} {vs : List Value} {cs : Array Value} (hB : B ≤ w.heap.size) (hv : cs.toList = vs) (hl : vs.length = m * k) (hm : m ≤ 1000000) : Own (w.alloc (.cells cs e)) B e k (some ⟨w.heap.size, 0, none⟩) m m vs := by
  refine ⟨hl, .inr ⟨w.heap.size, m, cs, rfl, hB, heap_alloc_new w _, Nat.le_refl _, by simp [maxLen]; omega, ?_, ?_⟩⟩
  · rw [← Array.length_toList, hv, hl]
  · rw [hv]; exact List.take_of_length_le (by rw [hl]; exact Nat.le_refl _)
end Go.Proofs.Ytecpbgmcednpoaa
