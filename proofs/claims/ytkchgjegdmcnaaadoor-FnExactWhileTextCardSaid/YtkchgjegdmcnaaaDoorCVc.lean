/-
  Texts of while programs: the program's text of an expression (exprText).
-/
import Derived.Test.YtkchgjegdmcnaaaDoorCVa
import Derived.Test.YtkchgjegdmcnaaaDoorCWo
namespace Go.Proofs.YtkchgjegdmcnaaaDoor
open Go.RowKit

/-- the operands' texts -/
def opT (N : Nat) (l : List (Int × Int)) (k : Nat) : List (List UInt8) := (List.range k).map fun i => exT N (opdE l i)
def strV (L : List (List UInt8)) : List Value := L.map fun l => .string (bs l)
theorem strV_snoc (L : List (List UInt8)) (y : List UInt8) : strV (L ++ [y]) = strV L ++ [.string (bs y)] := by simp [strV]
theorem strV_len (L : List (List UInt8)) : (strV L).length = L.length := by simp [strV]
theorem opT_succ (N : Nat) (l : List (Int × Int)) (k : Nat) : opT N l (k + 1) = opT N l k ++ [exT N (opdE l k)] := by simp [opT, List.range_succ]
theorem opd_all {l : List (Int × Int)} (h : l.all okE = true) (i : Nat) : (opdE l i).all okE = true := all_take (all_drop h _) _
/-- two slices in two blocks -/
def apartA (G P : Option Addr) : Prop := ∀ a p, G = some a → P = some p → a.block ≠ p.block
theorem exT_zero (N : Nat) (v : Int) (l : List (Int × Int)) : exT (N + 1) ((0, v) :: l) = [110] := by rw [exT, if_pos rfl]
theorem exT_var (N : Nat) (v : Int) (l : List (Int × Int)) : exT (N + 1) ((1, v) :: l) = Lib.itoa v := by simp [exT, binT]
theorem exT_head (N : Nat) (v : Int) (l : List (Int × Int)) : exT (N + 1) ((3, v) :: l) = 104 :: exT N l := by simp [exT, binT]
theorem exT_tail (N : Nat) (v : Int) (l : List (Int × Int)) : exT (N + 1) ((4, v) :: l) = 116 :: exT N l := by simp [exT, binT]
theorem exT_cons (N : Nat) (v : Int) (l : List (Int × Int)) : exT (N + 1) ((2, v) :: l) = 40 :: (exT N (l.take (endM l)) ++ 46 :: (exT N (l.drop (endM l)) ++ [41])) := by simp [exT, binT]
theorem exT_same (N : Nat) (v : Int) (l : List (Int × Int)) : exT (N + 1) ((5, v) :: l) = 40 :: (exT N (l.take (endM l)) ++ 63 :: (exT N (l.drop (endM l)) ++ [41])) := by simp [exT, binT]
theorem binT_bs (c : UInt8) (t u : List UInt8) : (⟨#[40]⟩ : ByteArray) ++ bs t ++ ⟨#[c]⟩ ++ bs u ++ ⟨#[41]⟩ = bs (40 :: (t ++ c :: (u ++ [41]))) := by
  rw [show (⟨#[40]⟩ : ByteArray) = bs [40] from rfl, show (⟨#[c]⟩ : ByteArray) = bs [c] from rfl, show (⟨#[41]⟩ : ByteArray) = bs [41] from rfl]
  simp only [bs_add]; congr 1; simp
theorem unT_bs (c : UInt8) (t : List UInt8) : (⟨#[c]⟩ : ByteArray) ++ bs t = bs (c :: t) := by
  rw [show (⟨#[c]⟩ : ByteArray) = bs [c] from rfl, bs_add]; rfl
set_option maxHeartbeats 4000000 in
set_option maxRecDepth 100000 in
theorem exprText_c (N : Nat) : ∀ (A : Option Addr) (n cp : Nat) (e : List (Int × Int)) (w : World), Rd2 w A n e → n ≤ cp → n ≤ N → N ≤ 40 → isE e → e.all okE = true → Tab w →
    Calls Tryd.prog 40 #[.slice A n cp] w fun en w' => en = .returned (.string (bs (exT N e))) ∧ Below w.heap.size w w' := by
  induction N with
  | zero => intro A n cp e w h hcp hn hN he; have := isE_pos he; rw [h.len] at this; omega
  | succ N IH =>
    intro A n cp e w h hcp hn hN he ho ht
    obtain ⟨⟨t, v⟩, l, rfl⟩ := isE_ne he
    have hnl := h.len
    rw [List.length_cons] at hnl
    obtain ⟨ad, rfl, hab, hc0, hc1⟩ := h.first
    simp only at hc0 hc1
    obtain ⟨m, hm⟩ : ∃ m, manyE t = m := ⟨_, rfl⟩
    have hm2 : m ≤ 2 := by rw [← hm]; exact manyE_le t
    obtain ⟨hox, hol⟩ := all_cons ho
    have hkd := okE_kind hox
    simp only at hkd
    have HIH := Lib.hid IH; have H := Lib.hid h; have HE := Lib.hid he; have HM := Lib.hid hm; have HOL := Lib.hid hol; have HT := Lib.hid ht
    have HNL := Lib.hid hnl
    have HC0 := Lib.hid hc0; have HC1 := Lib.hid hc1
    clear IH h he hm hc0 hc1 ho hox hol ht
    have hn0 : 0 < n := by omega
    have hnN : n ≤ N + 1 := hn
    clear hnl
    go_enter Tryd.func40, Tryd.ntmps40
    go_wp2_with fail
    have E0 := Lib.hid (show Below w.heap.size w (w.alloc (.cells #[] 9)) from below_size.alloc (Nat.le_refl _) _)
    refine (operands_c ad n cp t v l m _ (by exact H.out.below E0.out) hcp (by omega) HE.out HM.out).mono ?_
    rintro e w2 ⟨G, gc, rfl, hRV, hGn, hb2⟩
    have E2 := Lib.hid (below_chain E0.out (by simp) hb2)
    have O2 := Lib.hid (show Own w2 w.heap.size 9 1 (some ⟨w.heap.size, 0, none⟩) 0 0 (strV (opT N l 0)) from (Own.lit (Nat.le_refl _)).keep hb2)
    have R2 := Lib.hid hRV.head
    have A2 := Lib.hid (show apartA G (some ⟨w.heap.size, 0, none⟩) from fun a p ha hp => by have := hGn a ha; injection hp with hp; subst hp; show a.block ≠ w.heap.size; simp at this; omega)
    clear hRV hb2 hGn
    go_wp2_with fail
    go_loopw [3, 10] (fun pv iv wr => ∃ (k pc : Nat) (P : Option Addr), k ≤ m ∧ iv = .int .i64 k ∧ pv = .slice P k pc ∧ Hid (Own wr w.heap.size 9 1 P k pc (strV (opT N l k))) ∧ Hid (Rd wr G m ((itsO ad cp l m).map hdV)) ∧ Hid (apartA G P) ∧ Below w.heap.size w wr) (fun _ iv _ => m - (intOf iv).toNat)
    case atStart => exact ⟨0, 0, some ⟨w.heap.size, 0, none⟩, by omega, rfl, rfl, O2.out, R2.out, A2.out, E2.out⟩
    case round =>
      obtain ⟨k, pc, P, hkm, rfl, rfl, hO, hG, hAP, hb⟩ := hrel
      have HB := Lib.hid hb
      have hzr := hb.size
      by_cases hlt : k < m
      · have hkt : k < manyE ((t, v) : Int × Int).1 := by show k < manyE t; rw [HM.out]; exact hlt
        obtain ⟨h1, h2, h3, _, h5, h6⟩ := opd_ok HE.out hkt
        have hn4 := HNL.out
        obtain ⟨ga, vh, hga, hgb, hvh, hgc⟩ := hG.out.at_ hlt
        subst hga
        rw [List.getElem?_map, itsO_at hlt] at hvh
        injection hvh with hvh; subst hvh
        have RK := Lib.hid (itO_rd (cp := cp) (H.out.below hb) HE.out hkt)
        obtain ⟨oA, on, oc, ovs, hit⟩ : ∃ oA on oc ovs, itO ad cp l k = ⟨oA, on, oc, ovs⟩ := ⟨_, _, _, _, rfl⟩
        have hoc : on ≤ oc := by have e1 : on = posE l (k + 1) - posE l k := (congrArg ItV.n hit).symm
                                 have e2 : oc = cp - posE l k := (congrArg ItV.c hit).symm
                                 omega
        have hon : on ≤ N := by have e1 : on = posE l (k + 1) - posE l k := (congrArg ItV.n hit).symm
                                omega
        rw [hit] at hgc RK
        simp only [hdV] at hgc RK
        have H5 := Lib.hid h5
        have HOK := Lib.hid (opd_all HOL.out k)
        have HTR := Lib.hid (HT.out.below hb)
        have hxl := exT_len (N := N) h5 (opd_all HOL.out k) (by omega)
        obtain ⟨X, hX⟩ : ∃ X, exT N (opdE l k) = X := ⟨_, rfl⟩
        have HX := Lib.hid hX
        clear h1 h2 h3 h5 h6 hn4 hit hX hb hxl hkt
        go_wp2_with (first
          | (go_at_call 40; refine (HIH.out oA on oc (opdE l k) wr RK.out hoc hon (by omega) H5.out HOK.out HTR.out).mono ?_; rw [HX.out]; rintro e w5 ⟨rfl, hb5⟩; have E5 := Lib.hid hb5; have hz5 := hb5.size)
          | (at_builtin; refine wp_app1 (by rfl) _ _ 53 9 (.string ⟨#[]⟩) 16 (by rfl) Tryd.underlying53 info_str' rfl w.heap.size P k pc (strV (opT N l k)) (by rfl) (by exact (hO.out.keep E5.out).alloc _) w5.heap.size (.string (bs X)) (by rfl) (by exact new_cell _ _ _ 0) rfl (by omega) (by omega) (by simp; omega) ?_; intro g6 c6 w6 own6 hb6 hk6 hg6 hz6))
        have O6 := Lib.hid (show Own w6 w.heap.size 9 1 (some ⟨g6, 0, none⟩) (k + 1) c6 (strV (opT N l (k + 1))) by rw [opT_succ, strV_snoc, HX.out]; exact own6)
        have hgl : ga.block < wr.heap.size := hgb
        have R6 := Lib.hid (show Rd w6 (some ga) m ((itsO ad cp l m).map hdV) from Rd.atBlk (Rd.alloc (hG.out.below E5.out) _) (fun a ha _ => by injection ha with ha; subst ha; exact hk6 ga.block (by simp; omega) (fun p hp h => hAP.out ga p rfl hp h.symm)) hz6)
        have A6 := Lib.hid (show apartA (some ga) (some ⟨g6, 0, none⟩) from fun a p ha hp => by
          injection ha with ha; subst ha; injection hp with hp; subst hp
          rcases hg6 with hg6 | hg6
          · exact hAP.out ga _ rfl hg6
          · show ga.block ≠ g6; rw [hg6]; simp; omega)
        have B6 := Lib.hid ((below_chain HB.out hzr (E5.out.alloc hz5 _)).trans hb6)
        clear own6 hb6 hk6 hg6 hz6
        go_roundw
        case rel => exact ⟨k + 1, c6, some ⟨g6, 0, none⟩, by omega, by go_num, rfl, O6.out, R6.out, A6.out, B6.out⟩
        case measure => simp [intOf]; omega
      · obtain rfl : k = m := by omega
        have hw0 := keepc hb HC0.out
        have hw1 := keepc hb HC1.out
        have HTR := Lib.hid (HT.out.below hb)
        clear hb
        by_cases h0 : t = 0
        · subst h0
          have HG := Lib.hid (exT_zero N v l)
          go_wp2_with fail
          go_ret
          exact ⟨by rw [HG.out]; rfl, HB.out⟩
        by_cases h1 : t = 1
        · subst h1
          have HG := Lib.hid (exT_var N v l)
          go_wp2_with (go_at_call 39; refine (Decimal_c v _ (by omega) (by omega) HTR.out).mono ?_; rintro e w7 ⟨rfl, hb7⟩)
          go_ret
          exact ⟨by rw [HG.out]; rfl, below_chain HB.out hzr hb7⟩
        by_cases h3 : t = 3
        · subst h3
          have hme : manyE 3 = 1 := many_un.2 (.inl rfl)
          have hk1 : k = 1 := by rw [← HM.out, hme]
          subst hk1
          have HIL := Lib.hid ((isE_un (x := (3, v)) hme).1 HE.out)
          have HT1 := Lib.hid (show strV (opT N l 1) = [.string (bs (exT N l))] by rw [opT_succ, opd_un HE.out hme]; rfl)
          have hla := exT_len (N := N) HIL.out HOL.out (by have := HNL.out; omega)
          have HG := Lib.hid (exT_head N v l)
          obtain ⟨a, ha⟩ : ∃ a, exT N l = a := ⟨_, rfl⟩
          rw [ha] at HT1 hla HG
          have la : (bs a).size ≤ 120 := by rw [bs_size]; have := HNL.out; omega
          have hO1 := hO.out
          rw [HT1.out] at hO1
          obtain ⟨pa, rfl, hpc⟩ := own_cell hO1 (show ([.string (bs a)] : List Value)[0]? = some (.string (bs a)) from rfl)
          rw [addrZv] at hpc
          have HX := Lib.hid (unT_bs 104 a)
          clear hO1 ha hla hme
          go_wp2_with fail
          rw [HX.out]
          go_ret
          exact ⟨by rw [HG.out]; rfl, HB.out⟩
        by_cases h4 : t = 4
        · subst h4
          have hme : manyE 4 = 1 := many_un.2 (.inr rfl)
          have hk1 : k = 1 := by rw [← HM.out, hme]
          subst hk1
          have HIL := Lib.hid ((isE_un (x := (4, v)) hme).1 HE.out)
          have HT1 := Lib.hid (show strV (opT N l 1) = [.string (bs (exT N l))] by rw [opT_succ, opd_un HE.out hme]; rfl)
          have hla := exT_len (N := N) HIL.out HOL.out (by have := HNL.out; omega)
          have HG := Lib.hid (exT_tail N v l)
          obtain ⟨a, ha⟩ : ∃ a, exT N l = a := ⟨_, rfl⟩
          rw [ha] at HT1 hla HG
          have la : (bs a).size ≤ 120 := by rw [bs_size]; have := HNL.out; omega
          have hO1 := hO.out
          rw [HT1.out] at hO1
          obtain ⟨pa, rfl, hpc⟩ := own_cell hO1 (show ([.string (bs a)] : List Value)[0]? = some (.string (bs a)) from rfl)
          rw [addrZv] at hpc
          have HX := Lib.hid (unT_bs 116 a)
          clear hO1 ha hla hme
          go_wp2_with fail
          rw [HX.out]
          go_ret
          exact ⟨by rw [HG.out]; rfl, HB.out⟩
        by_cases h2 : t = 2
        · subst h2
          have hme : manyE 2 = 2 := many_two.2 (.inl rfl)
          have hk1 : k = 2 := by rw [← HM.out, hme]
          subst hk1
          obtain ⟨_, e1, e2, e3, e4⟩ := isE_two (x := (2, v)) HE.out hme
          obtain ⟨o1, o2⟩ := opd_two (x := (2, v)) HE.out hme
          have HT1 := Lib.hid (show strV (opT N l 2) = [.string (bs (exT N (l.take (endM l)))), .string (bs (exT N (l.drop (endM l))))] by rw [opT_succ, opT_succ, o1, o2]; rfl)
          have hla := exT_len (N := N) e3 (all_take HOL.out _) (by have := HNL.out; rw [List.length_take]; omega)
          have hlb := exT_len (N := N) e4 (all_drop HOL.out _) (by have := HNL.out; rw [List.length_drop]; omega)
          rw [List.length_take] at hla; rw [List.length_drop] at hlb
          have HG := Lib.hid (exT_cons N v l)
          obtain ⟨a, ha⟩ : ∃ a, exT N (l.take (endM l)) = a := ⟨_, rfl⟩
          obtain ⟨b, hb'⟩ : ∃ b, exT N (l.drop (endM l)) = b := ⟨_, rfl⟩
          rw [ha] at HT1 hla HG
          rw [hb'] at HT1 hlb HG
          have la : (bs a).size ≤ 120 := by rw [bs_size]; have := HNL.out; omega
          have lb : (bs b).size ≤ 120 := by rw [bs_size]; have := HNL.out; omega
          have hO1 := hO.out
          rw [HT1.out] at hO1
          obtain ⟨pa, rfl, hpc⟩ := own_cell hO1 (show ([.string (bs a), .string (bs b)] : List Value)[0]? = some (.string (bs a)) from rfl)
          obtain ⟨pa', hpe, hpd⟩ := own_cell hO1 (show ([.string (bs a), .string (bs b)] : List Value)[1]? = some (.string (bs b)) from rfl)
          injection hpe with hpe; subst hpe
          rw [addrZv] at hpc
          rw [addrSv] at hpd
          have HX := Lib.hid (binT_bs 46 a b)
          clear hO1 ha hb' hla hlb hme e1 e2 e3 e4 o1 o2
          go_wp2_with fail
          go_quiet (fail)
          rw [HX.out]
          go_wp2_with fail
          go_ret
          exact ⟨by rw [HG.out]; rfl, below_drewN HB.out _⟩
        · obtain rfl : t = 5 := by omega
          have hme : manyE 5 = 2 := many_two.2 (.inr rfl)
          have hk1 : k = 2 := by rw [← HM.out, hme]
          subst hk1
          obtain ⟨_, e1, e2, e3, e4⟩ := isE_two (x := (5, v)) HE.out hme
          obtain ⟨o1, o2⟩ := opd_two (x := (5, v)) HE.out hme
          have HT1 := Lib.hid (show strV (opT N l 2) = [.string (bs (exT N (l.take (endM l)))), .string (bs (exT N (l.drop (endM l))))] by rw [opT_succ, opT_succ, o1, o2]; rfl)
          have hla := exT_len (N := N) e3 (all_take HOL.out _) (by have := HNL.out; rw [List.length_take]; omega)
          have hlb := exT_len (N := N) e4 (all_drop HOL.out _) (by have := HNL.out; rw [List.length_drop]; omega)
          rw [List.length_take] at hla; rw [List.length_drop] at hlb
          have HG := Lib.hid (exT_same N v l)
          obtain ⟨a, ha⟩ : ∃ a, exT N (l.take (endM l)) = a := ⟨_, rfl⟩
          obtain ⟨b, hb'⟩ : ∃ b, exT N (l.drop (endM l)) = b := ⟨_, rfl⟩
          rw [ha] at HT1 hla HG
          rw [hb'] at HT1 hlb HG
          have la : (bs a).size ≤ 120 := by rw [bs_size]; have := HNL.out; omega
          have lb : (bs b).size ≤ 120 := by rw [bs_size]; have := HNL.out; omega
          have hO1 := hO.out
          rw [HT1.out] at hO1
          obtain ⟨pa, rfl, hpc⟩ := own_cell hO1 (show ([.string (bs a), .string (bs b)] : List Value)[0]? = some (.string (bs a)) from rfl)
          obtain ⟨pa', hpe, hpd⟩ := own_cell hO1 (show ([.string (bs a), .string (bs b)] : List Value)[1]? = some (.string (bs b)) from rfl)
          injection hpe with hpe; subst hpe
          rw [addrZv] at hpc
          rw [addrSv] at hpd
          have HX := Lib.hid (binT_bs 63 a b)
          clear hO1 ha hb' hla hlb hme e1 e2 e3 e4 o1 o2
          go_wp2_with fail
          go_quiet (fail)
          rw [HX.out]
          go_wp2_with fail
          go_ret
          exact ⟨by rw [HG.out]; rfl, below_drewN HB.out _⟩
end Go.Proofs.YtkchgjegdmcnaaaDoor
