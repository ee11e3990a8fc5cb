/-
  Contracts of chapter 12: the program's step and run of a combinator term.
-/
import Derived.Test.YtfgnhdmiglobhaaC12e
import Derived.Test.YtfgnhdmiglobhaaC12d
import Derived.Test.YtfgnhdmiglobhaaConcat
import Derived.Test.YtfgnhdmiglobhaaRepZ
import Derived.Test.YtfgnhdmiglobhaaMixB
namespace Go.Proofs.Ytfgnhdmiglobhaa
open Go.RowKit

set_option maxHeartbeats 2000000 in
set_option maxRecDepth 100000 in
theorem argumentsYes_c (ad : Addr) (n cp : Nat) (c : List (Int × Int)) (k : Nat) (kind M : Int) (many a z : Nat) (w : World) (h : Rd2 w (some ad) n c) (hn : n ≤ 400) (hnc : n ≤ cp) (hf : tryF (c.drop k) kind many = true) (hM : M = (many : Int)) (hm : many ≤ 3) (hkn : kind ≠ 0)
    (ha : k + many + 1 = a) (hz : endI c a many = z) (hzn : z ≤ n) (hE : ∀ i, i < many → ∃ p, endP manyC (c.drop (endI c a i)) 1 = some p ∧ endI c a i + p = endI c a (i + 1) ∧ 1 ≤ p) :
    Calls Try.prog 88 #[.slice (some ad) n cp, .int .i64 k, .int .i64 kind, .int .i64 M] w fun e w' => ∃ B cc, e = .returned (.tuple #[.slice B many cc, .int .i64 z]) ∧ Own w' w.heap.size 24 1 B many cc (argVs ad cp c a many) ∧ Below w.heap.size w w' := by
  subst hM
  have HL := Lib.hid h.len
  have H := Lib.hid h; have HF := Lib.hid hf; have HE := Lib.hid hE; have HA := Lib.hid ha; have HZZ := Lib.hid hz
  have HZ := Lib.hid (show ∀ i, i ≤ many → endI c a i ≤ z from fun i hi => by rw [← hz]; exact endI_mono hi)
  have hkm : k + many < n := by
    obtain ⟨_, x, hx, _⟩ := tryF_true hkn hf
    rw [List.getElem?_drop] at hx
    have := (List.getElem?_eq_some_iff.1 hx).1
    rw [h.len] at this; exact this
  clear h hf hE ha hz
  go_enter Try.func88, Try.ntmps88
  go_wp2_with fail
  go_loop [15] (fun iv => ∃ i : Nat, i ≤ many ∧ iv = .int .i64 i ∧ Hid (tryF (c.drop (k + i)) kind (many - i) = true)) (fun iv => many - (intOf iv).toNat)
  case atStart => exact ⟨0, by omega, rfl, HF.out⟩
  case round =>
    obtain ⟨i, hi, rfl, hr⟩ := hrel
    by_cases hlt : i < many
    · obtain ⟨_, x, e, hab, hx, hc0, hc1⟩ := H.out.at_ (k := k + i) (by omega)
      injection e with e; subst e
      obtain ⟨p, v⟩ := x
      have HS := Lib.hid (show ((p == 0) && tryF (c.drop (k + (i + 1))) kind (many - (i + 1))) = true by rw [← hr.out, drop_at hx, show many - i = many - (i + 1) + 1 by omega]; rfl)
      simp only at hc0 hc1
      have h0 : p = 0 := by have := HS.out; simp at this; exact this.1
      have HG := Lib.hid (show tryF (c.drop (k + (i + 1))) kind (many - (i + 1)) = true by have := HS.out; simp at this; exact this.2)
      subst h0
      clear hx hr HS
      go_wp2_with fail
      go_round
      case rel => exact ⟨i + 1, by omega, by go_num, HG.out⟩
      case measure => simp [intOf]; omega
    · obtain rfl : i = many := by omega
      obtain ⟨_, x, e, hab, hx, hc0, hc1⟩ := H.out.at_ (k := k + i) (by omega)
      injection e with e; subst e
      obtain ⟨p, v⟩ := x
      have gp : p = kind := by
        have := hr.out
        rw [Nat.sub_self, drop_at hx] at this
        simpa [tryF] using this
      subst gp
      simp only at hc0 hc1
      clear hx hr
      go_wp2_with fail
      go_loopw [11, 12, 55] (fun ev av iv wr => ∃ (j : Nat) (B : Option Addr) (cc : Nat), j ≤ i ∧ iv = .int .i64 j ∧ ev = .int .i64 (endI c a j) ∧ av = .slice B j cc ∧ Hid (Own wr w.heap.size 24 1 B j cc (argVs ad cp c a j)) ∧ Below w.heap.size w wr) (fun _ _ iv _ => i - (intOf iv).toNat)
      case atStart => exact ⟨0, some ⟨w.heap.size, 0, none⟩, 0, by omega, rfl, by rw [show endI c a 0 = k + i + 1 from HA.out.symm]; go_num, rfl, Own.lit (Nat.le_refl _), below_size.alloc (Nat.le_refl _) _⟩
      case round =>
        obtain ⟨j, B, cc, hj, rfl, rfl, rfl, hO, hb⟩ := hrel
        have EB := Lib.hid hb
        have hwz := hb.size
        by_cases hlt2 : j < i
        · obtain ⟨p, hp, he, hp1⟩ := HE.out j hlt2
          have hz1 := HZ.out (j + 1) (by omega)
          obtain ⟨e0, he0⟩ : ∃ e0, endI c a j = e0 := ⟨_, rfl⟩
          obtain ⟨e1, he1⟩ : ∃ e1, endI c a (j + 1) = e1 := ⟨_, rfl⟩
          have HN := Lib.hid (show argV ad cp c a j = .slice (some (ad.add (e0 * 2))) (e1 - e0) (cp - e0) by rw [argV, he0, he1])
          rw [he0] at hp he
          rw [he1] at he hz1
          have HP := Lib.hid (show resE manyC c e0 1 = (e1 : Int) by rw [resE_some hp, he])
          have HE0 := Lib.hid he0; have HE1 := Lib.hid he1
          have R := Lib.hid (H.out.below EB.out)
          rw [he0]
          clear hp he0 he1 hb
          go_wp2_with (first | (go_at_call 60; refine (combEnd_c _ _ _ c e0 e1 _ R.out (by omega) (by omega) HP.out).mono ?_; rintro e w2 ⟨rfl, hb2⟩; have E2 := Lib.hid (below_chain EB.out EB.out.size hb2); have O2 := Lib.hid (hO.out.keep hb2); have hz2 := hb2.size; clear hb2) | (at_builtin; refine wp_app1 (by rfl) _ _ 60 24 (.slice none 0 0) 24 (by rfl) Try.underlying60 info_sComb rfl w.heap.size B j cc (argVs ad cp c a j) (by rfl) (by exact O2.out.alloc _) w2.heap.size (argV ad cp c a j) (by rfl) (by rw [HN.out]; exact new_cell _ _ _ 0) (by rw [HN.out]; rfl) (by omega) (by omega) (by simp; omega) ?_; intro g' cap w3 own3 hb3 hk3 hg3 hz3))
          have O3 := Lib.hid own3; have E3 := Lib.hid ((E2.out.alloc (by omega) _).trans hb3)
          clear own3 hb3 hk3 hg3 hz3
          go_wp2_with fail
          go_roundw
          case rel => exact ⟨j + 1, some ⟨g', 0, none⟩, cap, by omega, by go_num, by rw [HE1.out], rfl, by unfold Hid; rw [argVs_succ]; exact O3.out, E3.out⟩
          case measure => simp [intOf]; omega
        · obtain rfl : j = i := by omega
          rw [HZZ.out]
          go_wp2_with fail
          go_ret2
          exact ⟨B, cc, rfl, hO.out, EB.out⟩
/-- lists of pairs, one behind the other -/
def itC (A : Option Addr) (n c : Nat) (xs : List (Int × Int)) : ItV := ⟨A, n, c, xs.flatMap enc2⟩
theorem rdVC {w : World} {g : Nat} {t : TypeId} {vs : Array Value} {its : List ItV} {n : Nat} (hg : Blk w g t vs) (hv : vs.toList = its.map hdV) (hn : its.length = n) (h : ∀ i ∈ its, Rd w i.A (i.n * 2) i.vs ∧ ∀ u ∈ i.vs, u.oneCell' = true) : RdV w 2 (some ⟨g, 0, none⟩) n its := by
  have hs : vs.size = n := by rw [← Array.length_toList, hv, List.length_map, hn]
  exact ⟨hg.rd (by rw [hv]; exact List.take_of_length_le (by rw [List.length_map]; omega)) (by omega), fun t ht => (h t ht).1, fun t ht => (h t ht).2⟩
theorem itC_ok {w : World} {A : Option Addr} {n c : Nat} {xs : List (Int × Int)} (h : Rd2 w A n xs) : Rd w (itC A n c xs).A ((itC A n c xs).n * 2) (itC A n c xs).vs ∧ ∀ u ∈ (itC A n c xs).vs, u.oneCell' = true := ⟨h, one_pairs xs⟩
set_option maxHeartbeats 1000000 in
theorem appliedComb_c (x : Int × Int) (A : Option Addr) (n c : Nat) (xs : List (Int × Int)) (G : Option Addr) (m mc N : Nat) (its : List ItV) (w : World) (h : Rd2 w A n xs) (hG : RdV w 2 G m its) (hm : m ≤ 11) (hn : n ≤ 1000000) (hs : sumV its ≤ 1000000) (hN : m + n + sumV its = N) :
    Calls Try.prog 71 #[.agg #[.int .i64 x.1, .int .i64 x.2], .slice A n c, .slice G m mc] w (CatOut 2 N ((List.replicate m x).flatMap enc2 ++ xs.flatMap enc2 ++ its.flatMap ItV.vs) w) := by
  have H := Lib.hid h; have HG := Lib.hid hG; have HN := Lib.hid hN
  obtain ⟨VV, hVV⟩ : ∃ VV, (List.replicate m x).flatMap enc2 ++ xs.flatMap enc2 ++ its.flatMap ItV.vs = VV := ⟨_, rfl⟩
  rw [hVV]
  have HV := Lib.hid hVV
  clear h hG hN hVV
  have a0 : ((w.alloc (.cells #[.int .i64 x.1, .int .i64 x.2] 50)).alloc (.cells #[.int .i64 x.1, .int .i64 x.2] 50)).cell? ⟨w.heap.size + 1, 0, none⟩ = some (i64 x.1) := by
    have := new_cells2 (w := w) (.cells #[.int .i64 x.1, .int .i64 x.2] 50) (i64 x.1) (i64 x.2) 50 0 _ rfl; rwa [addrZ] at this
  have a1 : ((w.alloc (.cells #[.int .i64 x.1, .int .i64 x.2] 50)).alloc (.cells #[.int .i64 x.1, .int .i64 x.2] 50)).cell? ⟨w.heap.size + 1, 0 + 1, none⟩ = some (i64 x.2) := by
    have := new_cells2 (w := w) (.cells #[.int .i64 x.1, .int .i64 x.2] 50) (i64 x.1) (i64 x.2) 50 1 _ rfl; rwa [addr1] at this
  have A0 := Lib.hid a0; have A1 := Lib.hid a1
  clear a0 a1
  go_enter Try.func71, Try.ntmps71
  go_wp2_with fail
  refine (repeatCombM_c ⟨w.heap.size + 1, 0, none⟩ 1 x m _ A0.out A1.out hm).mono ?_
  rintro e w1 ⟨g1, rfl, hw1, hb1⟩
  have B1 := Lib.hid (up2 hb1)
  have W1 := Lib.hid hw1
  clear hw1 hb1 A0 A1
  go_wp2_with fail
  refine (concatComb_c G m mc its w1 (HG.out.below B1.out) (by omega) (by omega)).mono ?_
  rintro e w2 ⟨A2, c2, rfl, hw2, hc2, hb2⟩
  obtain ⟨M, hM⟩ : ∃ M, sumV its = M := ⟨_, rfl⟩
  rw [hM] at hw2 hc2 hs
  rw [hM]
  have HM := Lib.hid hM
  have B2 := Lib.hid (below_chain B1.out B1.out.size hb2)
  have W1' := Lib.hid (W1.out.below hb2); have W2 := Lib.hid hw2.rd
  have H2 := Lib.hid (H.out.below B2.out)
  have HRV := Lib.hid (show RdV (w2.alloc (.cells #[.slice (some ⟨g1, 0, none⟩) m m, .slice A n c, .slice A2 M c2] 24)) 2 (some ⟨w2.heap.size, 0, none⟩) 3 [itC (some ⟨g1, 0, none⟩) m m (List.replicate m x), itC A n c xs, ⟨A2, M, c2, its.flatMap ItV.vs⟩] from
    rdVC (Blk.new _ _ _) (by simp [hdV, itC]) rfl (fun i hi => by
      simp only [List.mem_cons, List.not_mem_nil, or_false] at hi
      rcases hi with rfl | rfl | rfl
      · exact itC_ok (W1'.out.alloc _)
      · exact itC_ok (H2.out.alloc _)
      · refine ⟨W2.out.alloc _, fun u hu => ?_⟩
        obtain ⟨t, ht, hu⟩ := List.mem_flatMap.1 hu
        exact HG.out.one t ht u hu))
  clear hw2 hb2 hM W1 W1' W2 H2
  go_wp2_with fail
  refine (concatComb_c _ 3 3 _ _ HRV.out (by omega) (by simp [sumV, itC]; omega)).mono ?_
  rintro e w3 ⟨A3, c3, rfl, hw3, hc3, hb3⟩
  have hS : sumV [itC (some ⟨g1, 0, none⟩) m m (List.replicate m x), itC A n c xs, (⟨A2, M, c2, its.flatMap ItV.vs⟩ : ItV)] = N := by simp [sumV, itC]; have := HN.out; have := HM.out; omega
  have hF : [itC (some ⟨g1, 0, none⟩) m m (List.replicate m x), itC A n c xs, (⟨A2, M, c2, its.flatMap ItV.vs⟩ : ItV)].flatMap ItV.vs = VV := by rw [← HV.out]; simp [itC]
  rw [hS, hF] at hw3
  rw [hS] at hc3
  rw [hS]
  have W3 := Lib.hid (hw3.wider (lo' := w.heap.size) (by have := B2.out.size; simp; omega) (Nat.le_refl _)); have B3 := Lib.hid (below_chain B2.out B2.out.size (up1 hb3))
  clear hw3 hb3 hS hF
  go_wp2_with fail
  go_ret
  exact ⟨A3, c3, rfl, W3.out, hc3, B3.out⟩
end Go.Proofs.Ytfgnhdmiglobhaa
