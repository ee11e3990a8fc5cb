/-
  Contracts of chapter 11 (recursive functions): the program's parts of a function.
-/
import Derived.Test.YtnoapoaajidncaaDoorC11j
namespace Go.Proofs.YtnoapoaajidncaaDoor
open Go.RowKit
open FTr

/-- the slice of a part -/
def ptV (ad : Addr) (cp a : Nat) (t : FTr) : Value := .slice (some (ad.add (a * 3))) (flat t).length (cp - a)
def ptVs (ad : Addr) (cp : Nat) : Nat → List FTr → List Value
  | _, [] => []
  | a, t :: ts => ptV ad cp a t :: ptVs ad cp (a + (flat t).length) ts
theorem ptVs_app (ad : Addr) (cp : Nat) : ∀ (a : Nat) (ts us : List FTr), ptVs ad cp a (ts ++ us) = ptVs ad cp a ts ++ ptVs ad cp (a + (flats ts).length) us
  | a, [], us => by simp [ptVs, flats_nil]
  | a, t :: ts, us => by rw [List.cons_append, ptVs, ptVs, ptVs_app, flats_cons, List.length_append, Nat.add_assoc]; rfl
theorem info_sFunc : (Tryd.prog.info? 22).map (fun i => (i.zero, i.size, i.bytes)) = some (some (.slice none 0 0), 1, 24) := by kernel_rfl
set_option maxHeartbeats 4000000 in
set_option maxRecDepth 100000 in
theorem partsAt_c (ad : Addr) (n cp : Nat) (f : List Nd3) (k : Nat) (x : Nd3) (ts : List FTr) (r : List Nd3) (m : Nat) (w : World) (h : Rd3 w (some ad) n f) (hn : n ≤ 1000000000) (hnc : n ≤ cp) (hf : f.drop k = flat (mk x ts) ++ r) (ho : okT (mk x ts) = true) (hmm : ts.length = m) :
    Calls Tryd.prog 41 #[.slice (some ad) n cp, .int .i64 k] w fun e w' => ∃ A c, e = .returned (.slice A m c) ∧ Own w' w.heap.size 22 1 A m c (ptVs ad cp (k + 1) ts) ∧ Below w.heap.size w w' := by
  have hL := h.len
  have hkl := congrArg List.length hf
  rw [List.length_drop, List.length_append, hL, flat_mk, List.length_cons] at hkl
  have hroot : f[k]? = some x := root_at hf
  obtain ⟨ad', x', e, hab, hx, hc0, hc1, hc2⟩ := h.at_ (k := k) (by omega)
  injection e with e; subst e
  rw [hroot] at hx
  injection hx with hx; subst hx
  have hO := okT_iff.1 ho
  have HQ := Lib.hid hO.node
  have HM := Lib.hid (show (folF x).length = m by rw [← hO.ars, List.length_map, hmm])
  have hm5 : m ≤ 5 := by rw [← HM.out]; exact manyF_le x hO.node
  have HK := Lib.hid hO.kids; have HT := Lib.hid hmm; have HF := Lib.hid hf
  have C0 := Lib.hid (show w.cell? (ad.add (k * 3)) = some (i64 x.1) from hc0)
  have c0' := keepa (.cells #[] 22) hc0; have c1' := keepa (.cells #[] 22) hc1; have c2' := keepa (.cells #[] 22) hc2
  have H := Lib.hid h
  have hkn : k < n := by omega
  clear h hmm ho hf hc0 hc1 hc2 hroot hO
  go_enter Tryd.func41, Tryd.ntmps41
  go_wp2_with (first | (go_at_call 51; refine (followers_c x _ HQ.out m HM.out).mono ?_; rintro e w2 ⟨A2, c2, rfl, hA2, hb2⟩; have B2 := Lib.hid ((below_size.alloc (Nat.le_refl _) _).trans (hb2.mono (by simp))); have O2 := Lib.hid (show Own w2 w.heap.size 22 1 (some ⟨w.heap.size, 0, none⟩) 0 0 [] from (Own.lit (Nat.le_refl _)).keep hb2); clear hA2 hb2))
  go_loopw [5, 6, 17] (fun ov av jv wr => ∃ (i : Nat) (B : Option Addr) (cc a : Nat), i ≤ m ∧ ov = .slice B i cc ∧ av = .int .i64 a ∧ a ≤ n ∧ Hid (a = k + 1 + (flats (ts.take i)).length) ∧ jv = .int .i64 i ∧ Hid (Own wr w.heap.size 22 1 B i cc (ptVs ad cp (k + 1) (ts.take i))) ∧ Below w.heap.size w wr) (fun _ _ jv _ => m - (intOf jv).toNat)
  case atStart => exact ⟨0, some ⟨w.heap.size, 0, none⟩, 0, k + 1, by omega, rfl, by go_num, by omega, by simp [Hid, flats_nil], rfl, O2.out, B2.out⟩
  case round =>
    obtain ⟨i, B, cc, a, hi, rfl, rfl, han, ha, rfl, hO, hb⟩ := hrel
    have EB := Lib.hid hb
    have hwz := hb.size
    by_cases hlt : i < m
    · obtain ⟨t, ht⟩ : ∃ t, ts[i]? = some t := ⟨_, List.getElem?_eq_getElem (by rw [HT.out]; exact hlt)⟩
      obtain ⟨r', hr'⟩ := part_at HF.out ht
      rw [← ha.out] at hr'
      have hlr := congrArg List.length hr'
      rw [List.length_drop, List.length_append, hL] at hlr
      have htp := flat_pos t
      have hE := tree_feE t n (-1) r' (HK.out t (List.mem_of_getElem? ht)) (.inl (by omega)) (by omega)
      obtain ⟨l, hl⟩ : ∃ l, (flat t).length = l := ⟨_, rfl⟩
      rw [hl] at hlr htp hE
      have HE := Lib.hid (show (feE n (f.drop a) (-1)).map (a + ·) = some (a + l) by rw [hr', hE]; rfl)
      have HFE := Lib.hid (show ∀ (ai : Int) (w : World), ai = -1 → Rd3 w (some ad) n f → Calls Tryd.prog 50 #[.slice (some ad) n cp, .int .i64 a, .int .i64 ai] w fun e w' => e = .returned (.int .i64 ((a + l : Nat) : Int)) ∧ Below w.heap.size w w' from fun ai w h1 h => by
        subst h1
        exact funcEnd_c (some ad) n cp f hn n a (-1) (some (a + l)) w h (by omega) (by omega) HE.out)
      have HP := Lib.hid (show ptVs ad cp (k + 1) (ts.take (i + 1)) = ptVs ad cp (k + 1) (ts.take i) ++ [.slice (some (ad.add (a * 3))) l (cp - a)] by
        rw [take_at ht, ptVs_app, ← ha.out, ← hl]; rfl)
      have HB2 := Lib.hid (show a + l = k + 1 + (flats (ts.take (i + 1))).length by
        rw [flats_take ht, List.length_append, hl, ha.out]; omega)
      clear ht hr' hE ha hb hl
      go_wp2_with (first | (go_at_call 50; refine (HFE.out _ _ (by omega) (Rd3.below H.out EB.out)).mono ?_; rintro e w4 ⟨rfl, hb4⟩; have E4 := Lib.hid (below_chain EB.out EB.out.size hb4); have O4 := Lib.hid (hO.out.keep hb4); have z4 := E4.out.size; clear hb4) | (at_builtin; refine wp_app1 (by rfl) _ _ 56 22 (.slice none 0 0) 24 (by rfl) Tryd.underlying56 info_sFunc rfl w.heap.size B i cc _ (by rfl) (by exact O4.out.alloc _) w4.heap.size (.slice (some (ad.add (a * 3))) l (cp - a)) (by rfl) (by first | exact new_cell _ _ _ 0 | (rw [show l = a + l - a by omega]; exact new_cell _ _ _ 0)) (by rfl) (by omega) (by omega) (by simp; omega) ?_; intro g' cap w3 own3 hb3 hk3 hg3 hz3; have O3 := Lib.hid own3; have E3 := Lib.hid ((E4.out.alloc z4 _).trans hb3); clear own3 hb3 hk3 hg3 hz3))
      go_roundw
      case rel => exact ⟨i + 1, some ⟨g', 0, none⟩, cap, a + l, by omega, rfl, rfl, by omega, HB2.out, by go_num, by unfold Hid; rw [HP.out]; exact O3.out, E3.out⟩
      case measure => simp [intOf]; omega
    · obtain rfl : i = m := by omega
      clear hb
      go_wp2_with fail
      go_ret
      have hO := hO.out
      rw [List.take_of_length_le (by rw [HT.out]; exact Nat.le_refl _)] at hO
      exact ⟨B, cc, rfl, hO, EB.out⟩
end Go.Proofs.YtnoapoaajidncaaDoor
