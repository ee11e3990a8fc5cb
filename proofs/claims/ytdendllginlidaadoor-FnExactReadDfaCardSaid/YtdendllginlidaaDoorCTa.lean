/-
  Texts, first part: plain facts on decimal numerals; the reference's numeral (l01Dec).
-/
import Derived.Test.YtdendllginlidaaDoorC01
import Derived.Test.YtdendllginlidaaDoorApp
import Derived.Lib.ItoaLen
namespace Go.Proofs.YtdendllginlidaaDoor
open Go.RowKit

/-- a text -/
def bs (l : List UInt8) : ByteArray := ⟨l.toArray⟩
theorem bs_add (a b : List UInt8) : bs a ++ bs b = bs (a ++ b) := by
  have h : (bs a ++ bs b).data = (bs (a ++ b)).data := by rw [ByteArray.data_append]; simp [bs]
  exact ByteArray.ext h
theorem bs_size (a : List UInt8) : (bs a).size = a.length := by simp [bs, ByteArray.size]
theorem bs_inj {a b : List UInt8} (h : bs a = bs b) : a = b := by
  have h1 := congrArg (fun t => t.data.toList) h
  simpa [bs] using h1
/-- the decimal digits, none for 0 -/
def dI (u : Nat) : List Int := if _h : u = 0 then [] else dI (u / 10) ++ [48 + ((u % 10 : Nat) : Int)]
termination_by u
decreasing_by omega
theorem dI_zero : dI 0 = [] := by rw [dI]; simp
theorem dI_pos {u : Nat} (h : u ≠ 0) : dI u = dI (u / 10) ++ [48 + ((u % 10 : Nat) : Int)] := by rw [dI, dif_neg h]
theorem dI_text : ∀ u, u ≠ 0 → (dI u).map (fun n => UInt8.ofNat n.toNat) = Lib.decDigits u := by
  intro u
  induction u using Nat.strongRecOn with
  | _ u ih =>
    intro h
    rw [dI_pos h, Lib.decDigits]
    by_cases h1 : u < 10
    · rw [dif_pos h1, show u / 10 = 0 by omega, dI_zero, Nat.mod_eq_of_lt h1]
      simp only [List.nil_append, List.map_cons, List.map_nil]
      congr 2
    · rw [dif_neg h1, List.map_append, ih (u / 10) (by omega) (by omega)]
      simp only [List.map_cons, List.map_nil]
      congr 2
theorem dI_len {u : Nat} (hu : u ≤ 9223372036854775808) : (dI u).length ≤ 20 := by
  by_cases h : u = 0
  · subst h; rw [dI_zero]; simp
  have h1 := Lib.itoa_length_le (-(u : Int)) (by omega) (by omega)
  rw [Lib.itoa_neg u (by omega), ← dI_text u h] at h1
  simp at h1; omega
theorem dI_itoa {n : Int} (h : n ≠ 0) : strOfNums (if n < 0 then 45 :: dI n.natAbs else dI n.natAbs) = bs (Lib.itoa n) := by
  unfold strOfNums bs Lib.itoa
  by_cases h0 : n < 0
  · rw [if_pos h0, if_pos h0, List.map_cons, dI_text _ (by omega)]; rfl
  · rw [if_neg h0, if_neg h0, dI_text _ (by omega), show n.natAbs = n.toNat by omega]
theorem itoa_zero : bs (Lib.itoa 0) = ⟨#[48]⟩ := by
  have : Lib.itoa 0 = Lib.decDigits 0 := rfl
  rw [this, Lib.decDigits, dif_pos (by omega)]; rfl
theorem bytes_rd {w : World} {g n : Nat} {ds : List Int} {lo hi : Nat} (h : Wr w lo hi (some ⟨g, 0, none⟩) n (ds.map (Value.int .u8))) : ∀ i, i < n → w.cell? ⟨g, 0 + i, none⟩ = some (.int .u8 (ds.getD i 0)) := by
  intro i hi
  obtain ⟨_, v, e1, _, _, _, hv, hc, _⟩ := h.at_ hi
  injection e1 with e1; subst e1
  rw [head_add] at hc
  have hl := h.1
  rw [Nat.zero_add, hc, ← hv, List.getElem?_map, List.getD_eq_getElem?_getD, List.getElem?_eq_getElem (by simp at hl; omega)]
  rfl
theorem info_u8 : (Tryd.prog.info? 5).map (fun i => (i.zero, i.size, i.bytes)) = some (some (.int .u8 0), 1, 1) := by kernel_rfl
set_option maxHeartbeats 2000000 in
set_option maxRecDepth 100000 in
theorem l01Dec_c (n : Int) (w : World) (h0 : -9223372036854775808 ≤ n) (h1 : n ≤ 9223372036854775807) :
    Calls Tryd.prog 24 #[.int .i64 n] w fun e w' => e = .returned (.string (bs (Lib.itoa n))) ∧ Below w.heap.size w w' := by
  by_cases hn : n = 0
  · subst hn
    have HZ := Lib.hid itoa_zero
    go_enter Tryd.func24, Tryd.ntmps24
    go_wp2_with fail
    go_ret
    exact ⟨by rw [HZ.out]; rfl, below_size⟩
  have hn0 : (n == 0) = false := by simpa using hn
  have HN := Lib.hid hn; clear hn
  go_enter Tryd.func24, Tryd.ntmps24
  go_wp2_with fail
  go_loopw [3, 4] (fun v mv wr => ∃ (m : Int) (C : Option Addr) (q cc : Nat) (ds : List Int), v = .slice C q cc ∧ mv = .int .i64 m ∧ -9223372036854775808 ≤ m ∧ m ≤ 9223372036854775807 ∧ q ≤ 20 ∧ Hid (dI n.natAbs = dI m.natAbs ++ ds.reverse) ∧ Own wr w.heap.size 5 1 C q cc (ds.map (Value.int .u8)) ∧ Below w.heap.size w wr) (fun _ mv _ => (intOf mv).natAbs)
  case atStart => exact ⟨n, _, 0, 0, [], rfl, rfl, by omega, by omega, by omega, by unfold Hid; simp, Own.lit (Nat.le_refl _), below_size.alloc (Nat.le_refl _) _⟩
  case round =>
    obtain ⟨m, C, q, cc, ds, rfl, rfl, hm0, hm1, hq, hr, own, hb⟩ := hrel
    have HO := Lib.hid own; have HB := Lib.hid hb
    have hl := own.len
    have HQ := Lib.hid (show q = ds.length by simp at hl; omega)
    have hbs := hb.size
    clear own hb hl
    by_cases hm : m = 0
    · subst hm
      have g1 : ((0 : Int) != 0) = false := by decide
      have HF := Lib.hid (show dI n.natAbs = ds.reverse by rw [hr.out]; simp [dI_zero])
      have hq0 : 0 < q := by
        rcases Nat.eq_zero_or_pos q with h2 | h2
        · exfalso
          have h3 := HQ.out; rw [h2] at h3
          have h4 := HF.out; rw [List.length_eq_zero_iff.1 h3.symm, dI_pos (by have := HN.out; omega)] at h4
          simp at h4
        · exact h2
      clear hr
      by_cases hneg : n < 0
      · have g2 : decide (n < 0) = true := by simpa using hneg
        have HR := Lib.hid (show strOfNums ((ds ++ [45]).reverse) = bs (Lib.itoa n) by rw [← dI_itoa HN.out, if_pos hneg, HF.out]; simp)
        go_wp2_with (at_builtin; refine wp_app1 (by rfl) _ _ 57 5 (.int .u8 0) 1 (by rfl) Tryd.underlying57 info_u8 rfl w.heap.size C q cc (ds.map (Value.int .u8)) (by rfl) (by exact HO.out.alloc _) wr.heap.size (.int .u8 45) (by rfl) (by exact new_cell _ _ _ 0) rfl (by omega) (by omega) (by simp; omega) ?_; intro g' cap w2 own2 hb2 hk2 hg2 hz2)
        have O2 := Lib.hid (show Own w2 w.heap.size 5 1 (some ⟨g', 0, none⟩) (q + 1) cap ((ds ++ [45]).map (Value.int .u8)) by rw [List.map_append]; exact own2)
        have B2 := Lib.hid ((HB.out.alloc HB.out.size _).trans hb2)
        have HL := Lib.hid (show (ds ++ [45]).length = q + 1 by rw [HQ.out]; simp)
        clear own2 hb2 hk2 hg2 hz2 HB HO
        obtain ⟨D, hD⟩ : ∃ D, ds ++ [45] = D := ⟨_, rfl⟩
        obtain ⟨L, hL⟩ : ∃ L, q + 1 = L := ⟨_, rfl⟩
        rw [hD] at O2 HL HR
        have hL0 : 0 < L := by omega
        have hL1 : L ≤ 100 := by omega
        rw [hL] at O2 HL ⊢
        go_wp2_with fail
        go_loopw [6, 7] (fun ov iv wr => ∃ (k m : Nat) (O : Option Addr) (oc : Nat), iv = .int .i64 ((k : Int) - 1) ∧ ov = .slice O m oc ∧ k ≤ L ∧ Hid (m + k = L) ∧ m ≤ L ∧ Hid (Own wr w2.heap.size 5 1 O m oc ((D.drop k).reverse.map (Value.int .u8))) ∧ Below w2.heap.size w2 wr) (fun _ iv _ => (intOf iv + 1).toNat)
        case atStart => exact ⟨L, 0, _, _, by first | rfl | (congr 1; omega), rfl, Nat.le_refl _, by unfold Hid; omega, by omega, by unfold Hid; rw [List.drop_eq_nil_of_le (by rw [HL.out]; exact Nat.le_refl _)]; exact Own.lit (Nat.le_refl _), below_size.alloc (Nat.le_refl _) _⟩
        case round =>
          obtain ⟨k, m, O, oc, rfl, rfl, hk, hmk, hm, hO, hb⟩ := hrel
          have HB := Lib.hid hb
          have hz := hb.size
          by_cases hlt : 0 < k
          · obtain ⟨k', rfl⟩ : ∃ k', k = k' + 1 := ⟨k - 1, by omega⟩
            obtain ⟨ad, v, e1, hg1, hg2, _, hv, hc, _⟩ := (O2.out.keep hb).wr.at_ (k := k') (by omega)
            injection e1 with e1; subst e1
            rw [head_add] at hc
            rw [List.getElem?_map] at hv
            obtain ⟨x, hx, hxv⟩ := Option.map_eq_some_iff.1 hv
            subst hxv
            have HX := Lib.hid (show (D.drop k').reverse = (D.drop (k' + 1)).reverse ++ [x] by rw [drop_at hx, List.reverse_cons])
            have hk1 : (((k' + 1 : Nat) : Int) - 1) = (k' : Int) := by omega
            rw [hk1]
            clear hx hb hk1 hlt hv hg1 hg2
            go_wp2_with (at_builtin; refine wp_app1 (by rfl) _ _ 57 5 (.int .u8 0) 1 (by rfl) Tryd.underlying57 info_u8 rfl w2.heap.size O m oc ((D.drop (k' + 1)).reverse.map (Value.int .u8)) (by rfl) (by exact hO.out.alloc _) wr.heap.size (.int .u8 x) (by rfl) (by exact new_cell _ _ _ 0) rfl (by omega) (by omega) (by simp; omega) ?_; intro g4 cap4 w4 own4 hb4 hk4 hg4 hz4)
            have O4 := Lib.hid own4
            have B4 := Lib.hid (HB.out.trans (((below_size.alloc (Nat.le_refl _) _).mono (by omega)).trans hb4))
            clear own4 hb4 hk4 hg4
            go_wp2_with fail
            go_roundw
            case rel => exact ⟨k', m + 1, some ⟨g4, 0, none⟩, cap4, by go_num, rfl, by omega, by have := hmk.out; unfold Hid; omega, by have := hmk.out; omega, by unfold Hid; rw [HX.out, List.map_append]; exact O4.out, B4.out⟩
            case measure => simp [intOf]
          · obtain rfl : k = 0 := by omega
            have HE := Lib.hid (show m = L by have := hmk.out; omega)
            obtain ⟨_, _, e1, _, _, _, _, _, _⟩ := hO.out.wr.at_ (k := 0) (by have := HE.out; omega)
            have hbk := hO.out.block e1
            obtain ⟨g5, hg5⟩ : ∃ g5, O = some ⟨g5, 0, none⟩ := ⟨_, by rw [e1, hbk.2.2.1]⟩
            subst hg5
            have hcv := fun dst hd => run_convert_bytes_arg (P := Tryd.prog) wr 57 5 Tryd.underlying57 Tryd.underlying5 g5 0 m oc D.reverse (by rw [List.length_reverse, HL.out, HE.out]) (bytes_rd (by have := hO.out.wr; rw [List.drop_zero] at this; exact this)) dst hd
            have hcv2 := hcv 9 Tryd.underlying9
            clear hcv e1 hbk hb
            go_wp2_with fail
            go_ret
            exact ⟨by rw [HR.out]; rfl, B2.out.trans (HB.out.mono (by have := B2.out.size; omega))⟩
      · have g2 : decide (n < 0) = false := by simpa using hneg
        have HR := Lib.hid (show strOfNums ds.reverse = bs (Lib.itoa n) by rw [← dI_itoa HN.out, if_neg hneg, HF.out])
        obtain ⟨_, _, e1, _, _, _, _, _, _⟩ := HO.out.wr.at_ (k := 0) hq0
        have hbk := HO.out.block e1
        obtain ⟨g', hg'⟩ : ∃ g', C = some ⟨g', 0, none⟩ := ⟨_, by rw [e1, hbk.2.2.1]⟩
        subst hg'
        clear e1 hbk
        obtain ⟨cap, hcap⟩ : ∃ cap, cap = cc := ⟨_, rfl⟩
        obtain ⟨w2, hw2⟩ : ∃ w2, w2 = wr := ⟨_, rfl⟩
        obtain ⟨D, hD⟩ : ∃ D, D = ds := ⟨_, rfl⟩
        obtain ⟨L, hL⟩ : ∃ L, L = q := ⟨_, rfl⟩
        subst hcap hw2 hD hL
        have O2 := HO; have B2 := HB
        have HL := Lib.hid HQ.out.symm
        have hL1 : L ≤ 100 := by omega
        have hL0 := hq0
        clear HO HB
        go_wp2_with fail
        go_loopw [6, 7] (fun ov iv wr => ∃ (k m : Nat) (O : Option Addr) (oc : Nat), iv = .int .i64 ((k : Int) - 1) ∧ ov = .slice O m oc ∧ k ≤ L ∧ Hid (m + k = L) ∧ m ≤ L ∧ Hid (Own wr w2.heap.size 5 1 O m oc ((D.drop k).reverse.map (Value.int .u8))) ∧ Below w2.heap.size w2 wr) (fun _ iv _ => (intOf iv + 1).toNat)
        case atStart => exact ⟨L, 0, _, _, by first | rfl | (congr 1; omega), rfl, Nat.le_refl _, by unfold Hid; omega, by omega, by unfold Hid; rw [List.drop_eq_nil_of_le (by rw [HL.out]; exact Nat.le_refl _)]; exact Own.lit (Nat.le_refl _), below_size.alloc (Nat.le_refl _) _⟩
        case round =>
          obtain ⟨k, m, O, oc, rfl, rfl, hk, hmk, hm, hO, hb⟩ := hrel
          have HB := Lib.hid hb
          have hz := hb.size
          by_cases hlt : 0 < k
          · obtain ⟨k', rfl⟩ : ∃ k', k = k' + 1 := ⟨k - 1, by omega⟩
            obtain ⟨ad, v, e1, hg1, hg2, _, hv, hc, _⟩ := (O2.out.keep hb).wr.at_ (k := k') (by omega)
            injection e1 with e1; subst e1
            rw [head_add] at hc
            rw [List.getElem?_map] at hv
            obtain ⟨x, hx, hxv⟩ := Option.map_eq_some_iff.1 hv
            subst hxv
            have HX := Lib.hid (show (D.drop k').reverse = (D.drop (k' + 1)).reverse ++ [x] by rw [drop_at hx, List.reverse_cons])
            have hk1 : (((k' + 1 : Nat) : Int) - 1) = (k' : Int) := by omega
            rw [hk1]
            clear hx hb hk1 hlt hv hg1 hg2
            go_wp2_with (at_builtin; refine wp_app1 (by rfl) _ _ 57 5 (.int .u8 0) 1 (by rfl) Tryd.underlying57 info_u8 rfl w2.heap.size O m oc ((D.drop (k' + 1)).reverse.map (Value.int .u8)) (by rfl) (by exact hO.out.alloc _) wr.heap.size (.int .u8 x) (by rfl) (by exact new_cell _ _ _ 0) rfl (by omega) (by omega) (by simp; omega) ?_; intro g4 cap4 w4 own4 hb4 hk4 hg4 hz4)
            have O4 := Lib.hid own4
            have B4 := Lib.hid (HB.out.trans (((below_size.alloc (Nat.le_refl _) _).mono (by omega)).trans hb4))
            clear own4 hb4 hk4 hg4
            go_wp2_with fail
            go_roundw
            case rel => exact ⟨k', m + 1, some ⟨g4, 0, none⟩, cap4, by go_num, rfl, by omega, by have := hmk.out; unfold Hid; omega, by have := hmk.out; omega, by unfold Hid; rw [HX.out, List.map_append]; exact O4.out, B4.out⟩
            case measure => simp [intOf]
          · obtain rfl : k = 0 := by omega
            have HE := Lib.hid (show m = L by have := hmk.out; omega)
            obtain ⟨_, _, e1, _, _, _, _, _, _⟩ := hO.out.wr.at_ (k := 0) (by have := HE.out; omega)
            have hbk := hO.out.block e1
            obtain ⟨g5, hg5⟩ : ∃ g5, O = some ⟨g5, 0, none⟩ := ⟨_, by rw [e1, hbk.2.2.1]⟩
            subst hg5
            have hcv := fun dst hd => run_convert_bytes_arg (P := Tryd.prog) wr 57 5 Tryd.underlying57 Tryd.underlying5 g5 0 m oc D.reverse (by rw [List.length_reverse, HL.out, HE.out]) (bytes_rd (by have := hO.out.wr; rw [List.drop_zero] at this; exact this)) dst hd
            have hcv2 := hcv 9 Tryd.underlying9
            clear hcv e1 hbk hb
            go_wp2_with fail
            go_ret
            exact ⟨by rw [HR.out]; rfl, B2.out.trans (HB.out.mono (by have := B2.out.size; omega))⟩
    · have g1 : (m != 0) = true := by simpa using hm
      obtain ⟨e, he⟩ : ∃ e, m.tmod 10 = e := ⟨_, rfl⟩
      obtain ⟨p, hp⟩ : ∃ p, m.tdiv 10 = p := ⟨_, rfl⟩
      have he1 : e.natAbs = m.natAbs % 10 := by rw [← he, Int.natAbs_tmod]; rfl
      have hp1 : p.natAbs = m.natAbs / 10 := by rw [← hp, Int.natAbs_tdiv]; rfl
      have HF := Lib.hid (show dI n.natAbs = dI p.natAbs ++ (ds ++ [48 + ((e.natAbs : Nat) : Int)]).reverse by rw [hr.out, dI_pos (by omega), hp1, he1]; simp)
      have hq2 : q < 20 := by have h2 := congrArg List.length HF.out; have h3 := dI_len (u := n.natAbs) (by omega); have h4 := HQ.out; simp at h2; omega
      have hmp : p.natAbs < m.natAbs := by omega
      clear hr
      by_cases hneg : e < 0
      · have g2 : decide (e < 0) = true := by simpa using hneg
        have HE := Lib.hid (show ((e.natAbs : Nat) : Int) = -e by omega)
        go_wp2_with (at_builtin; refine wp_app1 (by rfl) _ _ 57 5 (.int .u8 0) 1 (by rfl) Tryd.underlying57 info_u8 rfl w.heap.size C q cc (ds.map (Value.int .u8)) (by rfl) (by exact HO.out.alloc _) wr.heap.size (.int .u8 (48 + -e)) (by rfl) (by exact new_cell _ _ _ 0) rfl (by omega) (by omega) (by simp; omega) ?_; intro g' cap w2 own2 hb2 hk2 hg2 hz2)
        have O2 := Lib.hid own2; have HB2 := Lib.hid hb2
        clear own2 hb2 hk2 hg2 hz2
        go_wp2_with fail
        go_roundw
        case rel => exact ⟨p, some ⟨g', 0, none⟩, q + 1, cap, ds ++ [48 + -e], rfl, by rw [← hp], by omega, by omega, by omega, by rw [← HE.out]; exact HF.out, by rw [List.map_append]; exact O2.out, (HB.out.alloc HB.out.size _).trans HB2.out⟩
        case measure => simp [intOf]; omega
      · have g2 : decide (e < 0) = false := by simpa using hneg
        have HE := Lib.hid (show ((e.natAbs : Nat) : Int) = e by omega)
        go_wp2_with (at_builtin; refine wp_app1 (by rfl) _ _ 57 5 (.int .u8 0) 1 (by rfl) Tryd.underlying57 info_u8 rfl w.heap.size C q cc (ds.map (Value.int .u8)) (by rfl) (by exact HO.out.alloc _) wr.heap.size (.int .u8 (48 + e)) (by rfl) (by exact new_cell _ _ _ 0) rfl (by omega) (by omega) (by simp; omega) ?_; intro g' cap w2 own2 hb2 hk2 hg2 hz2)
        have O2 := Lib.hid own2; have HB2 := Lib.hid hb2
        clear own2 hb2 hk2 hg2 hz2
        go_wp2_with fail
        go_roundw
        case rel => exact ⟨p, some ⟨g', 0, none⟩, q + 1, cap, ds ++ [48 + e], rfl, by rw [← hp], by omega, by omega, by omega, by rw [← HE.out]; exact HF.out, by rw [List.map_append]; exact O2.out, (HB.out.alloc HB.out.size _).trans HB2.out⟩
        case measure => simp [intOf]; omega
end Go.Proofs.YtdendllginlidaaDoor
