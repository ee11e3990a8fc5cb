/-
  Texts of while programs: the program's text of an expression (exprText).
-/
import Derived.Test.YtkchgjegdmcnaaaDoorCVa
import Derived.Test.YtkchgjegdmcnaaaDoorCWo
import Derived.Test.YtkchgjegdmcnaaaDoorCVb
import Derived.Test.YtkchgjegdmcnaaaDoorCWc
namespace Go.Proofs.YtkchgjegdmcnaaaDoor
open Go.RowKit

/-- the operands' texts -/
def opT (N : Nat) (l : List (Int × Int)) (k : Nat) : List (List UInt8) := (List.range k).map fun i => exT N (opdE l i)
def strV (L : List (List UInt8)) : List Value := L.map fun l => .string (bs l)
theorem strV_snoc (L : List (List UInt8)) (y : List UInt8) : strV (L ++ [y]) = strV L ++ [.string (bs y)] := by simp [strV]
theorem strV_len (L : List (List UInt8)) : (strV L).length = L.length := by simp [strV]
theorem opT_succ (N : Nat) (l : List (Int × Int)) (k : Nat) : opT N l (k + 1) = opT N l k ++ [exT N (opdE l k)] := by simp [opT, List.range_succ]
theorem opd_all {l : List (Int × Int)} (h : l.all okE = true) (i : Nat) : (opdE l i).all okE = true := all_take (all_drop h _) _
/-- two slices in two blocks -/
def apartA (G P : Option Addr) : Prop := ∀ a p, G = some a → P = some p → a.block ≠ p.block
theorem exT_zero (N : Nat) (v : Int) (l : List (Int × Int)) : exT (N + 1) ((0, v) :: l) = [110] := by rw [exT, if_pos rfl]
theorem exT_var (N : Nat) (v : Int) (l : List (Int × Int)) : exT (N + 1) ((1, v) :: l) = Lib.itoa v := by simp [exT]
theorem exT_head (N : Nat) (v : Int) (l : List (Int × Int)) : exT (N + 1) ((3, v) :: l) = 104 :: exT N l := by simp [exT]
theorem exT_tail (N : Nat) (v : Int) (l : List (Int × Int)) : exT (N + 1) ((4, v) :: l) = 116 :: exT N l := by simp [exT]
theorem exT_cons (N : Nat) (v : Int) (l : List (Int × Int)) : exT (N + 1) ((2, v) :: l) = 40 :: (exT N (l.take (endM l)) ++ 46 :: (exT N (l.drop (endM l)) ++ [41])) := by simp [exT, binT]
theorem exT_same (N : Nat) (v : Int) (l : List (Int × Int)) : exT (N + 1) ((5, v) :: l) = 40 :: (exT N (l.take (endM l)) ++ 63 :: (exT N (l.drop (endM l)) ++ [41])) := by simp [exT, binT]
theorem binT_bs (c : UInt8) (t u : List UInt8) : (⟨#[40]⟩ : ByteArray) ++ bs t ++ ⟨#[c]⟩ ++ bs u ++ ⟨#[41]⟩ = bs (40 :: (t ++ c :: (u ++ [41]))) := by
  rw [show (⟨#[40]⟩ : ByteArray) = bs [40] from rfl, show (⟨#[c]⟩ : ByteArray) = bs [c] from rfl, show (⟨#[41]⟩ : ByteArray) = bs [41] from rfl]
  simp only [bs_add]; congr 1; simp
theorem unT_bs (c : UInt8) (t : List UInt8) : (⟨#[c]⟩ : ByteArray) ++ bs t = bs (c :: t) := by
  rw [show (⟨#[c]⟩ : ByteArray) = bs [c] from rfl, bs_add]; rfl
set_option maxHeartbeats 4000000 in
set_option maxRecDepth 100000 in
theorem exprText_c (N : Nat) : ∀ (A : Option Addr) (n cp : Nat) (e : List (Int × Int)) (w : World), Rd2 w A n e → n ≤ cp → n ≤ N → N ≤ 40 → isE e → e.all okE = true → Tab w →
    Calls Tryd.prog 40 #[.slice A n cp] w fun en w' => en = .returned (.string (bs (exT N e))) ∧ Below w.heap.size w w' := by
  induction N with
  | zero => intro A n cp e w h hcp hn hN he; have := isE_pos he; rw [h.len] at this; omega
  | succ N IH =>
    intro A n cp e w h hcp hn hN he ho ht
    obtain ⟨⟨t, v⟩, l, rfl⟩ := isE_ne he
    have hnl := h.len
    rw [List.length_cons] at hnl
    obtain ⟨ad, rfl, hab, hc0, hc1⟩ := h.first
    simp only at hc0 hc1
    obtain ⟨m, hm⟩ : ∃ m, manyE t = m := ⟨_, rfl⟩
    have hm2 : m ≤ 2 := by rw [← hm]; exact manyE_le t
    obtain ⟨hox, hol⟩ := all_cons ho
    have hkd := okE_kind hox
    simp only at hkd
    have HIH := Lib.hid IH; have H := Lib.hid h; have HE := Lib.hid he; have HM := Lib.hid hm; have HOL := Lib.hid hol; have HT := Lib.hid ht
    have HNL := Lib.hid hnl
    have HC0 := Lib.hid hc0; have HC1 := Lib.hid hc1
    clear IH h he hm hc0 hc1 ho hox hol ht
    have hn0 : 0 < n := by omega
    have hnN : n ≤ N + 1 := hn
    clear hnl
    go_enter Tryd.func40, Tryd.ntmps40
    go_wp2_with fail
    have E0 := Lib.hid (show Below w.heap.size w (w.alloc (.cells #[] 9)) from below_size.alloc (Nat.le_refl _) _)
    refine (operands_c ad n cp t v l m _ (by exact H.out.below E0.out) hcp (by omega) HE.out HM.out).mono ?_
    rintro e w2 ⟨G, gc, rfl, hRV, hGn, hb2⟩
    have E2 := Lib.hid (below_chain E0.out (by simp) hb2)
    have O2 := Lib.hid (show Own w2 w.heap.size 9 1 (some ⟨w.heap.size, 0, none⟩) 0 0 (strV (opT N l 0)) from (Own.lit (Nat.le_refl _)).keep hb2)
    have R2 := Lib.hid hRV.head
    have A2 := Lib.hid (show apartA G (some ⟨w.heap.size, 0, none⟩) from fun a p ha hp => by have := hGn a ha; injection hp with hp; subst hp; show a.block ≠ w.heap.size; simp at this; omega)
    clear hRV hb2 hGn
    go_wp2_with fail
    go_loopw [3, 10] (fun pv iv wr => ∃ (k pc : Nat) (P : Option Addr), k ≤ m ∧ iv = .int .i64 k ∧ pv = .slice P k pc ∧ Hid (Own wr w.heap.size 9 1 P k pc (strV (opT N l k))) ∧ Hid (Rd wr G m ((itsO ad cp l m).map hdV)) ∧ Hid (apartA G P) ∧ Below w.heap.size w wr) (fun _ iv _ => m - (intOf iv).toNat)
    case atStart => exact ⟨0, 0, some ⟨w.heap.size, 0, none⟩, by omega, rfl, rfl, O2.out, R2.out, A2.out, E2.out⟩
    case round =>
      obtain ⟨k, pc, P, hkm, rfl, rfl, hO, hG, hAP, hb⟩ := hrel
      have HB := Lib.hid hb
      have hzr := hb.size
      by_cases hlt : k < m
      · have hkt : k < manyE ((t, v) : Int × Int).1 := by show k < manyE t; rw [HM.out]; exact hlt
        obtain ⟨h1, h2, h3, _, h5, h6⟩ := opd_ok HE.out hkt
        have hn4 := HNL.out
        obtain ⟨ga, vh, hga, hgb, hvh, hgc⟩ := hG.out.at_ hlt
        subst hga
        rw [List.getElem?_map, itsO_at hlt] at hvh
        injection hvh with hvh; subst hvh
        have RK := Lib.hid (itO_rd (cp := cp) (H.out.below hb) HE.out hkt)
        obtain ⟨oA, on, oc, ovs, hit⟩ : ∃ oA on oc ovs, itO ad cp l k = ⟨oA, on, oc, ovs⟩ := ⟨_, _, _, _, rfl⟩
        have hoc : on ≤ oc := by have e1 : on = posE l (k + 1) - posE l k := (congrArg ItV.n hit).symm
                                 have e2 : oc = cp - posE l k := (congrArg ItV.c hit).symm
                                 omega
        have hon : on ≤ N := by have e1 : on = posE l (k + 1) - posE l k := (congrArg ItV.n hit).symm
                                omega
        rw [hit] at hgc RK
        simp only [hdV] at hgc RK
        have H5 := Lib.hid h5
        have HOK := Lib.hid (opd_all HOL.out k)
        have HTR := Lib.hid (HT.out.below hb)
        have hxl := exT_len (N := N) h5 (opd_all HOL.out k) (by omega)
        obtain ⟨X, hX⟩ : ∃ X, exT N (opdE l k) = X := ⟨_, rfl⟩
        have HX := Lib.hid hX
        clear h1 h2 h3 h5 h6 hn4 hit hX hb hxl hkt
        go_wp2_with (first
          | (go_at_call 40; refine (HIH.out oA on oc (opdE l k) wr RK.out hoc hon (by omega) H5.out HOK.out HTR.out).mono ?_; rw [HX.out]; rintro e w5 ⟨rfl, hb5⟩; have E5 := Lib.hid hb5; have hz5 := hb5.size)
          | (at_builtin; refine wp_app1 (by rfl) _ _ 53 9 (.string ⟨#[]⟩) 16 (by rfl) Tryd.underlying53 info_str' rfl w.heap.size P k pc (strV (opT N l k)) (by rfl) (by exact (hO.out.keep E5.out).alloc _) w5.heap.size (.string (bs X)) (by rfl) (by exact new_cell _ _ _ 0) rfl (by omega) (by omega) (by simp; omega) ?_; intro g6 c6 w6 own6 hb6 hk6 hg6 hz6))
        have O6 := Lib.hid (show Own w6 w.heap.size 9 1 (some ⟨g6, 0, none⟩) (k + 1) c6 (strV (opT N l (k + 1))) by rw [opT_succ, strV_snoc, HX.out]; exact own6)
        have hgl : ga.block < wr.heap.size := hgb
        have R6 := Lib.hid (show Rd w6 (some ga) m ((itsO ad cp l m).map hdV) from Rd.atBlk (Rd.alloc (hG.out.below E5.out) _) (fun a ha _ => by injection ha with ha; subst ha; exact hk6 ga.block (by simp; omega) (fun p hp h => hAP.out ga p rfl hp h.symm)) hz6)
        have A6 := Lib.hid (show apartA (some ga) (some ⟨g6, 0, none⟩) from fun a p ha hp => by
          injection ha with ha; subst ha; injection hp with hp; subst hp
          rcases hg6 with hg6 | hg6
          · exact hAP.out ga _ rfl hg6
          · show ga.block ≠ g6; rw [hg6]; simp; omega)
        have B6 := Lib.hid ((below_chain HB.out hzr (E5.out.alloc hz5 _)).trans hb6)
        clear own6 hb6 hk6 hg6 hz6
        go_roundw
        case rel => exact ⟨k + 1, c6, some ⟨g6, 0, none⟩, by omega, by go_num, rfl, O6.out, R6.out, A6.out, B6.out⟩
        case measure => simp [intOf]; omega
      · obtain rfl : k = m := by omega
        have hw0 := keepc hb HC0.out
        have hw1 := keepc hb HC1.out
        have HTR := Lib.hid (HT.out.below hb)
        clear hb
        by_cases h0 : t = 0
        · subst h0
          have HG := Lib.hid (exT_zero N v l)
          go_wp2_with fail
          go_ret
          exact ⟨by rw [HG.out]; rfl, HB.out⟩
        by_cases h1 : t = 1
        · subst h1
          have HG := Lib.hid (exT_var N v l)
          go_wp2_with (go_at_call 39; refine (Decimal_c v _ (by omega) (by omega) HTR.out).mono ?_; rintro e w7 ⟨rfl, hb7⟩)
          go_ret
          exact ⟨by rw [HG.out]; rfl, below_chain HB.out hzr hb7⟩
        by_cases h3 : t = 3
        · subst h3
          have hme : manyE 3 = 1 := many_un.2 (.inl rfl)
          have hk1 : k = 1 := by rw [← HM.out, hme]
          subst hk1
          have HIL := Lib.hid ((isE_un (x := (3, v)) hme).1 HE.out)
          have HT1 := Lib.hid (show strV (opT N l 1) = [.string (bs (exT N l))] by rw [opT_succ, opd_un HE.out hme]; rfl)
          have hla := exT_len (N := N) HIL.out HOL.out (by have := HNL.out; omega)
          have HG := Lib.hid (exT_head N v l)
          obtain ⟨a, ha⟩ : ∃ a, exT N l = a := ⟨_, rfl⟩
          rw [ha] at HT1 hla HG
          have la : (bs a).size ≤ 120 := by rw [bs_size]; have := HNL.out; omega
          have hO1 := hO.out
          rw [HT1.out] at hO1
          obtain ⟨pa, rfl, hpc⟩ := own_cell hO1 (show ([.string (bs a)] : List Value)[0]? = some (.string (bs a)) from rfl)
          rw [addrZv] at hpc
          have HX := Lib.hid (unT_bs 104 a)
          clear hO1 ha hla hme
          go_wp2_with fail
          rw [HX.out]
          go_ret
          exact ⟨by rw [HG.out]; rfl, HB.out⟩
        by_cases h4 : t = 4
        · subst h4
          have hme : manyE 4 = 1 := many_un.2 (.inr rfl)
          have hk1 : k = 1 := by rw [← HM.out, hme]
          subst hk1
          have HIL := Lib.hid ((isE_un (x := (4, v)) hme).1 HE.out)
          have HT1 := Lib.hid (show strV (opT N l 1) = [.string (bs (exT N l))] by rw [opT_succ, opd_un HE.out hme]; rfl)
          have hla := exT_len (N := N) HIL.out HOL.out (by have := HNL.out; omega)
          have HG := Lib.hid (exT_tail N v l)
          obtain ⟨a, ha⟩ : ∃ a, exT N l = a := ⟨_, rfl⟩
          rw [ha] at HT1 hla HG
          have la : (bs a).size ≤ 120 := by rw [bs_size]; have := HNL.out; omega
          have hO1 := hO.out
          rw [HT1.out] at hO1
          obtain ⟨pa, rfl, hpc⟩ := own_cell hO1 (show ([.string (bs a)] : List Value)[0]? = some (.string (bs a)) from rfl)
          rw [addrZv] at hpc
          have HX := Lib.hid (unT_bs 116 a)
          clear hO1 ha hla hme
          go_wp2_with fail
          rw [HX.out]
          go_ret
          exact ⟨by rw [HG.out]; rfl, HB.out⟩
        by_cases h2 : t = 2
        · subst h2
          have hme : manyE 2 = 2 := many_two.2 (.inl rfl)
          have hk1 : k = 2 := by rw [← HM.out, hme]
          subst hk1
          obtain ⟨_, e1, e2, e3, e4⟩ := isE_two (x := (2, v)) HE.out hme
          obtain ⟨o1, o2⟩ := opd_two (x := (2, v)) HE.out hme
          have HT1 := Lib.hid (show strV (opT N l 2) = [.string (bs (exT N (l.take (endM l)))), .string (bs (exT N (l.drop (endM l))))] by rw [opT_succ, opT_succ, o1, o2]; rfl)
          have hla := exT_len (N := N) e3 (all_take HOL.out _) (by have := HNL.out; rw [List.length_take]; omega)
          have hlb := exT_len (N := N) e4 (all_drop HOL.out _) (by have := HNL.out; rw [List.length_drop]; omega)
          rw [List.length_take] at hla; rw [List.length_drop] at hlb
          have HG := Lib.hid (exT_cons N v l)
          obtain ⟨a, ha⟩ : ∃ a, exT N (l.take (endM l)) = a := ⟨_, rfl⟩
          obtain ⟨b, hb'⟩ : ∃ b, exT N (l.drop (endM l)) = b := ⟨_, rfl⟩
          rw [ha] at HT1 hla HG
          rw [hb'] at HT1 hlb HG
          have la : (bs a).size ≤ 120 := by rw [bs_size]; have := HNL.out; omega
          have lb : (bs b).size ≤ 120 := by rw [bs_size]; have := HNL.out; omega
          have hO1 := hO.out
          rw [HT1.out] at hO1
          obtain ⟨pa, rfl, hpc⟩ := own_cell hO1 (show ([.string (bs a), .string (bs b)] : List Value)[0]? = some (.string (bs a)) from rfl)
          obtain ⟨pa', hpe, hpd⟩ := own_cell hO1 (show ([.string (bs a), .string (bs b)] : List Value)[1]? = some (.string (bs b)) from rfl)
          injection hpe with hpe; subst hpe
          rw [addrZv] at hpc
          rw [addrSv] at hpd
          have HX := Lib.hid (binT_bs 46 a b)
          clear hO1 ha hb' hla hlb hme e1 e2 e3 e4 o1 o2
          go_wp2_with fail
          go_quiet (fail)
          rw [HX.out]
          go_wp2_with fail
          go_ret
          exact ⟨by rw [HG.out]; rfl, below_drewN HB.out _⟩
        · obtain rfl : t = 5 := by omega
          have hme : manyE 5 = 2 := many_two.2 (.inr rfl)
          have hk1 : k = 2 := by rw [← HM.out, hme]
          subst hk1
          obtain ⟨_, e1, e2, e3, e4⟩ := isE_two (x := (5, v)) HE.out hme
          obtain ⟨o1, o2⟩ := opd_two (x := (5, v)) HE.out hme
          have HT1 := Lib.hid (show strV (opT N l 2) = [.string (bs (exT N (l.take (endM l)))), .string (bs (exT N (l.drop (endM l))))] by rw [opT_succ, opT_succ, o1, o2]; rfl)
          have hla := exT_len (N := N) e3 (all_take HOL.out _) (by have := HNL.out; rw [List.length_take]; omega)
          have hlb := exT_len (N := N) e4 (all_drop HOL.out _) (by have := HNL.out; rw [List.length_drop]; omega)
          rw [List.length_take] at hla; rw [List.length_drop] at hlb
          have HG := Lib.hid (exT_same N v l)
          obtain ⟨a, ha⟩ : ∃ a, exT N (l.take (endM l)) = a := ⟨_, rfl⟩
          obtain ⟨b, hb'⟩ : ∃ b, exT N (l.drop (endM l)) = b := ⟨_, rfl⟩
          rw [ha] at HT1 hla HG
          rw [hb'] at HT1 hlb HG
          have la : (bs a).size ≤ 120 := by rw [bs_size]; have := HNL.out; omega
          have lb : (bs b).size ≤ 120 := by rw [bs_size]; have := HNL.out; omega
          have hO1 := hO.out
          rw [HT1.out] at hO1
          obtain ⟨pa, rfl, hpc⟩ := own_cell hO1 (show ([.string (bs a), .string (bs b)] : List Value)[0]? = some (.string (bs a)) from rfl)
          obtain ⟨pa', hpe, hpd⟩ := own_cell hO1 (show ([.string (bs a), .string (bs b)] : List Value)[1]? = some (.string (bs b)) from rfl)
          injection hpe with hpe; subst hpe
          rw [addrZv] at hpc
          rw [addrSv] at hpd
          have HX := Lib.hid (binT_bs 63 a b)
          clear hO1 ha hb' hla hlb hme e1 e2 e3 e4 o1 o2
          go_wp2_with fail
          go_quiet (fail)
          rw [HX.out]
          go_wp2_with fail
          go_ret
          exact ⟨by rw [HG.out]; rfl, below_drewN HB.out _⟩

/-- the texts so far, behind the variable that the visit has caught; w0: the world in which the list was begun -/
structure VisS (w0 : World) (g : Nat) (P : Option Addr) (k pc : Nat) (L : List (List UInt8)) (w : World) : Prop where
  blk : Blk w g 53 #[.slice P k pc]
  own : Own w w0.heap.size 9 1 P k pc (strV L)
  low : w0.heap.size ≤ g
  keep : Below w0.heap.size w0 w
theorem VisS.below {w0 w w' : World} {g : Nat} {P : Option Addr} {k pc : Nat} {L : List (List UInt8)} (h : VisS w0 g P k pc L w) (hb : Below w.heap.size w w') : VisS w0 g P k pc L w' :=
  ⟨h.blk.keep hb, h.own.keep hb, h.low, below_chain h.keep h.keep.size hb⟩
theorem VisS.len {w0 w : World} {g : Nat} {P : Option Addr} {k pc : Nat} {L : List (List UInt8)} (h : VisS w0 g P k pc L w) : L.length = k := by have := h.own.len; rw [strV_len] at this; omega
/-- the text of one command -/
def cmdT (kd vr : Int) (xs : List (Int × Int)) (T : List UInt8) : List UInt8 := if kd = 0 then Lib.itoa vr ++ 61 :: exT 40 xs else 119 :: (exT 40 xs ++ 123 :: (T ++ [125]))
theorem VisS.done {w0 w w2 : World} {g : Nat} {P : Option Addr} {k pc : Nat} {L : List (List UInt8)} {y : List UInt8} {g' cap : Nat} (h : VisS w0 g P k pc L w) (own2 : Own w2 w0.heap.size 9 1 (some ⟨g', 0, none⟩) (k + 1) cap (strV L ++ [.string (bs y)])) (hb2 : Below w0.heap.size w w2)
    (hk2 : ∀ b, b < w.heap.size → (∀ ad', P = some ad' → ad'.block ≠ b) → w2.heap[b]? = w.heap[b]?) : VisS w0 g (some ⟨g', 0, none⟩) (k + 1) cap (L ++ [y]) (w2.setCell ⟨g, 0, none⟩ (.slice (some ⟨g', 0, none⟩) (k + 1) cap)) := by
  have hB : Blk w2 g 53 #[.slice P k pc] := (hk2 g h.blk.lt (fun ad e => h.own.ne_ h.blk (by decide) ad e)).trans h.blk
  have hne := own2.ne_ hB (by decide)
  refine ⟨hB.set_ 0 _, ?_, h.low, (h.keep.trans hb2).setCell h.low _⟩
  rw [strV_snoc]
  exact own2.far (fun ad e => hne ad e) _
set_option maxHeartbeats 4000000 in
set_option maxRecDepth 100000 in
theorem visitW_c (w0 : World) (g : Nat) (P : Option Addr) (k pc : Nat) (L : List (List UInt8)) (kd vr ln : Int) (xA : Option Addr) (xn xc : Nat) (xs : List (Int × Int)) (B : Option Addr) (m c : Nat) (T : List UInt8) (w : World)
    (hs : VisS w0 g P k pc L w) (hx : Rd2 w0 xA xn xs) (hxc : xn ≤ xc) (hv : validE xs = true) (hv0 : 0 ≤ vr) (hv5 : vr ≤ 5) (hk : k ≤ 100) (ht : Tab w0) (hT : T.length ≤ 10000)
    (HC : kd ≠ 0 → ∀ wz, Below w0.heap.size w0 wz → Calls Tryd.prog 22 #[.slice B m c] wz fun e w' => e = .returned (.string (bs T)) ∧ Below wz.heap.size wz w') :
    Calls Tryd.prog 38 #[.agg #[.int .i64 kd, .int .i64 vr, .int .i64 ln, .slice xA xn xc], .slice B m c, .pointer (some ⟨g, 0, none⟩)] w fun e' w' => e' = .returned (.tuple #[]) ∧ ∃ P' pc', VisS w0 g P' (k + 1) pc' (L ++ [cmdT kd vr xs T]) w' := by
  obtain ⟨w1, hw1⟩ : ∃ w1, w.alloc (.cells #[.int .i64 kd, .int .i64 vr, .int .i64 ln, .slice xA xn xc] 42) = w1 := ⟨_, rfl⟩
  have E1 := Lib.hid (show Below w.heap.size w w1 by rw [← hw1]; exact below_size.alloc (Nat.le_refl _) _)
  have K1 := Lib.hid (show Blk w1 w.heap.size 42 #[.int .i64 kd, .int .i64 vr, .int .i64 ln, .slice xA xn xc] by rw [← hw1]; exact Blk.new _ _ _)
  have S1 := Lib.hid (hs.below E1.out)
  have k0 : w1.cell? ⟨w.heap.size, 0, none⟩ = some (.int .i64 kd) := K1.out.cell 0
  have k1 : w1.cell? ⟨w.heap.size, 1, none⟩ = some (.int .i64 vr) := K1.out.cell 1
  have k3 : w1.cell? ⟨w.heap.size, 3, none⟩ = some (.slice xA xn xc) := K1.out.cell 3
  have c0 : w1.cell? ⟨g, 0, none⟩ = some (.slice P k pc) := S1.out.blk.cell 0
  have HX := Lib.hid hx; have HT := Lib.hid ht; have HCC := Lib.hid HC
  obtain ⟨q1, q2, q3, q4⟩ := validE_end hv
  have hxl : (bs (exT 40 xs)).size ≤ 120 := by rw [bs_size]; have := exT_len (N := 40) q1 q4 q3; omega
  have hxn : xn ≤ 40 := by have := hx.len; omega
  have hdl : (bs (Lib.itoa vr)).size ≤ 21 := by rw [bs_size]; exact itoa_len (by omega)
  have htl : (bs T).size ≤ 10000 := by rw [bs_size]; exact hT
  have Q1 := Lib.hid (show isE xs from q1); have Q4 := Lib.hid q4
  clear hx ht HC q1 q2 q3 q4 hv hs hT
  obtain ⟨Y, hY⟩ : ∃ Y, cmdT kd vr xs T = Y := ⟨_, rfl⟩
  rw [hY]
  have e0 := Ext.cell k0; have e1 := Ext.cell k1; have e3 := Ext.cell k3; have ec := Ext.cell c0
  by_cases hk0 : kd = 0
  · subst hk0
    have HY := Lib.hid (show bs (Lib.itoa vr) ++ ⟨#[61]⟩ ++ bs (exT 40 xs) = bs Y by rw [setT_bs, ← hY, cmdT, if_pos rfl])
    clear hY
    go_enter Tryd.func38, Tryd.ntmps38
    go_wp2_with fail
    clear hw1
    refine Mix.wp_region_mix [3, 0, 3, 1, 0, 0, 3, 1, 0, 1, 2, 2] (fun w' => ∃ x : Ext w1, w' = x.w) (by kernel_rfl) (by kernel_rfl) (InExt.drew _) ?_
    repeat (first | (refine Mix.wpMix_read (by rfl) ?_; go_big_quiet_step (fail); refine wpQuiet_nil ?_) | (refine Mix.wpMix_pure (by rfl) ?_; go_big_quiet_step (fail); refine wpQuiet_nil ?_))
    refine Mix.wpMix_chg (by rfl) (fun K hK => ?_)
    go_wp2_with fail
    refine (Decimal_c vr _ (by omega) (by omega) (by exact (HT.out.below S1.out.keep).drew)).mono ?_
    rintro e w2 ⟨rfl, hb2⟩
    have E2 := Lib.hid (show Below w1.heap.size w1 w2 from below_of_drew hb2)
    clear hb2
    go_wp2_with fail
    refine hK _ _ ⟨⟨_, E2.out⟩, rfl⟩ ?_
    clear hK K
    repeat (first | (refine Mix.wpMix_read (by rfl) ?_; go_big_quiet_step (fail); refine wpQuiet_nil ?_) | (refine Mix.wpMix_pure (by rfl) ?_; go_big_quiet_step (fail); refine wpQuiet_nil ?_))
    refine Mix.wpMix_chg (by rfl) (fun K hK => ?_)
    go_wp2_with fail
    refine (exprText_c 40 xA xn xc xs _ (by exact (HX.out.below S1.out.keep).below E2.out) hxc hxn (by omega) Q1.out Q4.out (by exact (HT.out.below S1.out.keep).below E2.out)).mono ?_
    rintro e w3 ⟨rfl, hb3⟩
    have E3 := Lib.hid (below_chain E2.out E2.out.size hb3)
    clear hb3
    go_wp2_with fail
    refine hK _ _ ⟨⟨_, E3.out⟩, rfl⟩ ?_
    clear hK K
    repeat (first | (refine Mix.wpMix_read (by rfl) ?_; go_big_quiet_step (fail); refine wpQuiet_nil ?_) | (refine Mix.wpMix_pure (by rfl) ?_; go_big_quiet_step (fail); refine wpQuiet_nil ?_))
    rw [HY.out]
    have S3 := Lib.hid (S1.out.below E3.out)
    have hz3 := S3.out.keep.size
    refine Mix.wpMix_chg (by rfl) (fun K hK => ?_)
    go_wp2_with fail
    refine hK _ _ ⟨⟨_, below_chain E3.out E3.out.size (below_size.alloc (Nat.le_refl _) _)⟩, rfl⟩ ?_
    clear hK K
    obtain ⟨w4, hw4⟩ : ∃ w4, w3.alloc (.cells #[.string (bs Y)] 9) = w4 := ⟨_, rfl⟩
    have E4 := Lib.hid (show Below w3.heap.size w3 w4 by rw [← hw4]; exact below_size.alloc (Nat.le_refl _) _)
    have N4 := Lib.hid (show w4.cell? ⟨w3.heap.size, 0, none⟩ = some (.string (bs Y)) by rw [← hw4]; exact new_cell _ _ _ 0)
    have S4 := Lib.hid (S3.out.below E4.out)
    have hz4 := S4.out.keep.size
    rw [hw4]
    clear hw4 e0 e1 e3 ec
    refine Mix.wpMix_tail (by rfl) (fun K hK => ?_)
    refine wp_app1 (by rfl) _ _ 53 9 (.string ⟨#[]⟩) 16 (by rfl) Tryd.underlying53 info_str' rfl w0.heap.size P k pc (strV L) (by rfl) S4.out.own w3.heap.size (.string (bs Y)) (by rfl) N4.out rfl (by omega) (by omega) hz4 ?_
    intro g' cap w5 own5 hb5 hk5 hg5 hz5
    have hB : Blk w5 g 53 #[.slice P k pc] := (hk5 g S4.out.blk.lt (fun ad e => S4.out.own.ne_ S4.out.blk (by decide) ad e)).trans S4.out.blk
    have S6 := Lib.hid (S4.out.done own5 hb5 hk5)
    have c5 : w5.cell? ⟨g, 0, none⟩ = some (.slice P k pc) := hB.cell 0
    have f5 := hB.frozen 0
    clear own5 hb5 hk5 hg5 hz5 hB
    go_wp2_with fail
    refine hK _ _ ?_
    clear hK K
    refine Mix.wpMix_tail (by rfl) (fun K hK => ?_)
    go_wp2_with fail
    refine hK _ _ ?_
    clear hK K
    (refine Mix.wpMix_nil ?_; try simp only [Exit.then])
    go_end0
    exact ⟨rfl, _, _, S6.out⟩
  · have g0 : (kd == 0) = false := by simpa using hk0
    have HY := Lib.hid (show (⟨#[119]⟩ : ByteArray) ++ bs (exT 40 xs) ++ ⟨#[123]⟩ ++ bs T ++ ⟨#[125]⟩ = bs Y by rw [whileT_bs, ← hY, cmdT, if_neg hk0])
    clear hY
    have HCX := Lib.hid (HCC.out hk0)
    clear hk0 HCC
    go_enter Tryd.func38, Tryd.ntmps38
    go_wp2_with fail
    clear hw1
    refine Mix.wp_region_mix [3, 0, 3, 1, 0, 0, 0, 1, 0, 0, 1, 2, 2] (fun w' => ∃ x : Ext w1, w' = x.w) (by kernel_rfl) (by kernel_rfl) (InExt.drew _) ?_
    repeat (first | (refine Mix.wpMix_read (by rfl) ?_; go_big_quiet_step (fail); refine wpQuiet_nil ?_) | (refine Mix.wpMix_pure (by rfl) ?_; go_big_quiet_step (fail); refine wpQuiet_nil ?_))
    refine Mix.wpMix_chg (by rfl) (fun K hK => ?_)
    go_wp2_with fail
    refine (exprText_c 40 xA xn xc xs _ (by exact Rd.drew (HX.out.below S1.out.keep)) hxc hxn (by omega) Q1.out Q4.out (by exact (HT.out.below S1.out.keep).drew)).mono ?_
    rintro e w2 ⟨rfl, hb2⟩
    have E2 := Lib.hid (show Below w1.heap.size w1 w2 from below_of_drew hb2)
    clear hb2
    go_wp2_with fail
    refine hK _ _ ⟨⟨_, E2.out⟩, rfl⟩ ?_
    clear hK K
    repeat (first | (refine Mix.wpMix_read (by rfl) ?_; go_big_quiet_step (fail); refine wpQuiet_nil ?_) | (refine Mix.wpMix_pure (by rfl) ?_; go_big_quiet_step (fail); refine wpQuiet_nil ?_))
    refine Mix.wpMix_chg (by rfl) (fun K hK => ?_)
    go_wp2_with fail
    refine (HCX.out _ (below_chain S1.out.keep S1.out.keep.size E2.out)).mono ?_
    rintro e w3 ⟨rfl, hb3⟩
    have E3 := Lib.hid (below_chain E2.out E2.out.size hb3)
    clear hb3
    go_wp2_with fail
    refine hK _ _ ⟨⟨_, E3.out⟩, rfl⟩ ?_
    clear hK K
    repeat (first | (refine Mix.wpMix_read (by rfl) ?_; go_big_quiet_step (fail); refine wpQuiet_nil ?_) | (refine Mix.wpMix_pure (by rfl) ?_; go_big_quiet_step (fail); refine wpQuiet_nil ?_))
    rw [HY.out]
    have S3 := Lib.hid (S1.out.below E3.out)
    have hz3 := S3.out.keep.size
    refine Mix.wpMix_chg (by rfl) (fun K hK => ?_)
    go_wp2_with fail
    refine hK _ _ ⟨⟨_, below_chain E3.out E3.out.size (below_size.alloc (Nat.le_refl _) _)⟩, rfl⟩ ?_
    clear hK K
    obtain ⟨w4, hw4⟩ : ∃ w4, w3.alloc (.cells #[.string (bs Y)] 9) = w4 := ⟨_, rfl⟩
    have E4 := Lib.hid (show Below w3.heap.size w3 w4 by rw [← hw4]; exact below_size.alloc (Nat.le_refl _) _)
    have N4 := Lib.hid (show w4.cell? ⟨w3.heap.size, 0, none⟩ = some (.string (bs Y)) by rw [← hw4]; exact new_cell _ _ _ 0)
    have S4 := Lib.hid (S3.out.below E4.out)
    have hz4 := S4.out.keep.size
    rw [hw4]
    clear hw4 e0 e1 e3 ec
    refine Mix.wpMix_tail (by rfl) (fun K hK => ?_)
    refine wp_app1 (by rfl) _ _ 53 9 (.string ⟨#[]⟩) 16 (by rfl) Tryd.underlying53 info_str' rfl w0.heap.size P k pc (strV L) (by rfl) S4.out.own w3.heap.size (.string (bs Y)) (by rfl) N4.out rfl (by omega) (by omega) hz4 ?_
    intro g' cap w5 own5 hb5 hk5 hg5 hz5
    have hB : Blk w5 g 53 #[.slice P k pc] := (hk5 g S4.out.blk.lt (fun ad e => S4.out.own.ne_ S4.out.blk (by decide) ad e)).trans S4.out.blk
    have S6 := Lib.hid (S4.out.done own5 hb5 hk5)
    have c5 : w5.cell? ⟨g, 0, none⟩ = some (.slice P k pc) := hB.cell 0
    have f5 := hB.frozen 0
    clear own5 hb5 hk5 hg5 hz5 hB
    go_wp2_with fail
    refine hK _ _ ?_
    clear hK K
    refine Mix.wpMix_tail (by rfl) (fun K hK => ?_)
    go_wp2_with fail
    refine hK _ _ ?_
    clear hK K
    (refine Mix.wpMix_nil ?_; try simp only [Exit.then])
    go_end0
    exact ⟨rfl, _, _, S6.out⟩
/-- the first of valid commands, both kinds at once -/
theorem vcL_first {kd v ln : Int} {x : List (Int × Int)} {l : List Cmd} (h : vcL ((kd, v, ln, x) :: l) = true) :
    validE x = true ∧ 0 ≤ v ∧ v ≤ 5 ∧ ∃ m : Nat, ln = m ∧ m ≤ l.length ∧ vcL (l.take m) = true ∧ vcL (l.drop m) = true ∧ whL ((kd, v, ln, x) :: l) = cmdT kd v x (whT (l.take m)) :: whL (l.drop m) := by
  obtain ⟨hx, ⟨rfl, h0, h5, rfl, hl⟩ | ⟨rfl, rfl, m, rfl, hm, ha, hb⟩⟩ := vcL_one h
  · exact ⟨hx, h0, h5, 0, rfl, by omega, by rw [List.take_zero, vcL_nil], hl, by rw [whL_set]; rfl⟩
  · exact ⟨hx, by omega, by omega, m, rfl, hm, ha, hb, by rw [whL_while]; rfl⟩
/-- the text of shorter lists -/
def WhT (N : Nat) : Prop := ∀ (A : Option Addr) (n cp : Nat) (ps : List Ct) (D : List Cmd) (w : World), n < N → RdS w (sgCS A n ps) → n ≤ cp → n ≤ 80 → (∀ t ∈ ps, t.n ≤ t.c) → ps.map datC = D → vcL D = true → Tab w →
    Calls Tryd.prog 22 #[.slice A n cp] w fun e w' => e = .returned (.string (bs (whT D))) ∧ Below w.heap.size w w'
set_option maxHeartbeats 4000000 in
set_option maxRecDepth 100000 in
theorem blocksW_c (N : Nat) (IH : WhT N) (A : Option Addr) (n cp : Nat) (ps : List Ct) (D : List Cmd) (w0 w : World) (g : Nat) (P : Option Addr) (pc : Nat) (hN : n ≤ N) (h : RdS w0 (sgCS A n ps)) (hcp : n ≤ cp) (hn : n ≤ 80) (hi : ∀ t ∈ ps, t.n ≤ t.c) (hD : ps.map datC = D) (hv : vcL D = true) (ht : Tab w0)
    (hs : VisS w0 g P 0 pc [] w) :
    Calls Tryd.prog 37 #[.slice A n cp, .func (.func 38) #[] #[.pointer (some ⟨g, 0, none⟩)]] w fun e w' => e = .returned (.tuple #[]) ∧ ∃ P' k' pc', VisS w0 g P' k' pc' (whL D) w' := by
  have HIH := Lib.hid IH
  have HL := Lib.hid (RdCS.len h)
  have H := Lib.hid h; have HV := Lib.hid hv; have HI := Lib.hid hi; have HT := Lib.hid ht; have HS := Lib.hid hs
  have HD := Lib.hid hD
  have HDL := Lib.hid (show D.length = n by rw [← hD, List.length_map, HL.out])
  clear hD h hv IH hi ht hs
  go_enter Tryd.func37, Tryd.ntmps37
  go_wp2_with fail
  go_loopw [4] (fun iv wr => ∃ (i k pc : Nat) (P : Option Addr) (L : List (List UInt8)), i ≤ n ∧ k ≤ i ∧ iv = .int .i64 i ∧ Hid (L ++ whL (D.drop i) = whL D) ∧ Hid (vcL (D.drop i) = true) ∧ Hid (VisS w0 g P k pc L wr)) (fun iv _ => n - (intOf iv).toNat)
  case atStart => exact ⟨0, 0, pc, P, [], by omega, by omega, rfl, by unfold Hid; simp, HV.out, HS.out⟩
  case round =>
    obtain ⟨i, k, pc, P, L, hin, hki, rfl, hL, hV, hS⟩ := hrel
    clear HS
    by_cases hlt : i < n
    · obtain ⟨ad, x, rfl, hab, hx, hc0, hc1, hc2, hc3, hrd⟩ := RdCS.at_ (H.out.below hS.out.keep) hlt
      have HX0 := Lib.hid (show D[i]? = some (datC x) by rw [← HD.out, List.getElem?_map, hx]; rfl)
      have hxc := HI.out x (List.mem_of_getElem? hx)
      have hrx := (RdCS.body H.out (List.mem_of_getElem? hx)).head
      obtain ⟨kd, vr, ln, xA, xn, xc, xs⟩ := x
      simp only [datC] at HX0
      simp only at hc0 hc1 hc2 hc3 hrd hxc hrx
      have hV' := hV.out
      rw [drop_at HX0.out] at hV'
      obtain ⟨hvx, hv0, hv5, m, rfl, hm, hva, hvb, hW⟩ := vcL_first hV'
      have HVX := Lib.hid hvx; have HRX := Lib.hid (show Rd2 w0 xA xn xs from hrx)
      have hm : m ≤ n - i - 1 := by rw [List.length_drop, HDL.out] at hm; omega
      obtain ⟨T, hT⟩ : ∃ T, whT ((D.drop (i + 1)).take m) = T := ⟨_, rfl⟩
      have HVT := Lib.hid (show vcL (D.drop (i + 1 + m)) = true by rw [← List.drop_drop]; exact hvb)
      have htl : T.length ≤ 10000 := by
        have h1 := whT_len hva
        rw [hT, List.length_take] at h1
        omega
      have HN := Lib.hid (show (L ++ [cmdT kd vr xs T]) ++ whL (D.drop (i + 1 + m)) = whL D by rw [← hL.out, drop_at HX0.out, hW, List.append_assoc, hT, List.drop_drop]; rfl)
      have HSUB := Lib.hid (show ∀ B c, (B = some (ad.add ((i + 1) * 4)) ∨ m = 0) → m ≤ c → kd ≠ 0 → ∀ wz, Below w0.heap.size w0 wz →
          Calls Tryd.prog 22 #[.slice B m c] wz fun e w' => e = .returned (.string (bs T)) ∧ Below wz.heap.size wz w' from by
        intro B c hB hc _ wz hz
        rw [← hT]
        refine HIH.out B m c ((ps.drop (i + 1)).take m) _ wz (by omega) ?_ hc (by omega) (fun t ht => HI.out t (List.mem_of_mem_drop (List.mem_of_mem_take ht))) (by rw [← HD.out, List.map_take, List.map_drop]) hva (HT.out.below hz)
        rcases hB with rfl | rfl
        · exact RdCS.part (H.out.below hz) (by omega)
        · exact RdS.cons ⟨rfl, fun h => absurd h (by simp)⟩ RdS.nil)
      clear hva hvb hT hV' hL hV hvx hx hrd hrx hW
      by_cases hkc : i + 1 = cp
      · obtain rfl : m = 0 := by omega
        go_wp2_with (go_at_call 38; refine (visitW_c w0 g P k pc L kd vr _ xA xn xc xs _ 0 _ T _ hS.out HRX.out hxc HVX.out hv0 hv5 (by omega) HT.out htl (HSUB.out _ _ (by first | exact .inl rfl | exact .inr trivial | exact .inr (by omega)) (by first | exact Nat.zero_le _ | omega))).mono ?_; rintro e w5 ⟨rfl, P5, pc5, hS5⟩; have S5 := Lib.hid hS5; clear hS5)
        go_roundw
        case rel => exact ⟨i + 1 + 0, k + 1, pc5, P5, L ++ [cmdT kd vr xs T], by omega, by omega, by go_num, HN.out, HVT.out, S5.out⟩
        case measure => simp [intOf]; omega
      · go_wp2_with (go_at_call 38; refine (visitW_c w0 g P k pc L kd vr _ xA xn xc xs _ m _ T _ hS.out HRX.out hxc HVX.out hv0 hv5 (by omega) HT.out htl (HSUB.out _ _ (by first | exact .inl rfl | exact .inr trivial | exact .inr (by omega)) (by first | exact Nat.zero_le _ | omega))).mono ?_; rintro e w5 ⟨rfl, P5, pc5, hS5⟩; have S5 := Lib.hid hS5; clear hS5)
        go_roundw
        case rel => exact ⟨i + 1 + m, k + 1, pc5, P5, L ++ [cmdT kd vr xs T], by omega, by omega, by go_num, HN.out, HVT.out, S5.out⟩
        case measure => simp [intOf]; omega
    · obtain rfl : i = n := by omega
      have HR := Lib.hid (show L = whL D by
        have h1 := hL.out
        rw [List.drop_eq_nil_of_le (by rw [HDL.out]; exact Nat.le_refl _), whL_nil, List.append_nil] at h1
        exact h1)
      clear hL hV
      go_wp2_with fail
      go_end0
      exact ⟨rfl, P, k, pc, by rw [← HR.out]; exact hS.out⟩
set_option maxHeartbeats 4000000 in
set_option maxRecDepth 100000 in
theorem whileText_c (N : Nat) : WhT N := by
  induction N with
  | zero => intro A n cp ps D w hN; omega
  | succ N IH =>
    intro A n cp ps D w hN h hcp hn hi hD hv ht
    have HIH := Lib.hid IH; have H := Lib.hid h; have HI := Lib.hid hi; have HD := Lib.hid hD; have HV := Lib.hid hv; have HT := Lib.hid ht
    have hwl := whL_len _ D (Nat.le_refl _) hv
    have hjl := join_lens (whL D) 59
    have HDL : D.length = n := by rw [← hD, List.length_map, RdCS.len h]
    have hjl2 : (Lib.join (whL D) [59]).length ≤ 140737488355328 := by omega
    have hll : (whL D).length ≤ 10000 := by omega
    have HJL := Lib.hid hjl2; have HLL := Lib.hid hll
    clear hwl hjl HDL hjl2 hll IH h hi hD hv ht
    obtain ⟨w2, hw2⟩ : ∃ w2, (w.alloc (.cells #[] 9)).alloc (.cells #[.slice (some ⟨w.heap.size, 0, none⟩) 0 0] 53) = w2 := ⟨_, rfl⟩
    have E2 := Lib.hid (show Below w.heap.size w w2 by rw [← hw2]; exact (below_size.alloc (Nat.le_refl _) _).alloc (by simp) _)
    have S2 := Lib.hid (show VisS w (w.heap.size + 1) (some ⟨w.heap.size, 0, none⟩) 0 0 [] w2 from by
      rw [← hw2]
      have hz : (w.alloc (.cells #[] 9)).heap.size = w.heap.size + 1 := by simp
      refine ⟨?_, (Own.lit (Nat.le_refl _)).alloc _, by omega, (below_size.alloc (Nat.le_refl _) _).alloc (by simp) _⟩
      rw [← hz]; exact Blk.new _ _ _)
    go_enter Tryd.func22, Tryd.ntmps22
    go_wp2_with fail
    refine (blocksW_c N HIH.out A n cp ps D w w2 (w.heap.size + 1) _ 0 (by omega) H.out hcp hn HI.out HD.out HV.out HT.out S2.out).mono ?_
    rintro e w3 ⟨rfl, P, k, pc, hS⟩
    have S3 := Lib.hid hS
    have hkl := hS.len
    have hk : k ≤ 10000 := by have := HLL.out; omega
    have c3 : w3.cell? ⟨w.heap.size + 1, 0, none⟩ = some (.slice P k pc) := hS.blk.cell 0
    clear hS hkl hw2
    go_wp2_with (go_at_call 41; refine (Join_c P k pc w.heap.size (whL D) [59] _ (by exact S3.out.own) (by omega) HJL.out).mono ?_; rintro e w4 ⟨rfl, hb4⟩)
    go_ret
    exact ⟨rfl, below_chain S3.out.keep S3.out.keep.size hb4⟩
set_option maxHeartbeats 1000000 in
set_option maxRecDepth 100000 in
theorem iWhileText_c (A : Option Addr) (n c : Nat) (ps : List Ct) {D : List Cmd} (w : World) (h : RdS w (sgCS A n ps)) (hn : n ≤ 1000000000) (hnc : n ≤ c) (hi : ∀ t ∈ ps, t.n ≤ 1000000000) (hcp : ∀ t ∈ ps, t.n ≤ t.c) (hw0 : ps.map datC = D) (ht : Tab w) :
    Calls Tryd.prog 9 #[.slice A n c] w fun e w' => e = .returned (.string (bs (whR D))) ∧ Below w.heap.size w w' := by
  obtain ⟨q, hq⟩ : ∃ q, validW D = q := ⟨_, rfl⟩
  have HQ := Lib.hid (show validW (ps.map datC) = q by rw [hw0]; exact hq)
  have HV := Lib.hid hq
  have HD := Lib.hid hw0
  have HL := Lib.hid (RdCS.len h)
  have H := Lib.hid h; have HI := Lib.hid hi; have HCP := Lib.hid hcp; have HT := Lib.hid ht; clear h hi hw0 hq hcp ht
  go_enter Tryd.func9, Tryd.ntmps9
  go_wp2_with fail
  refine (validWhile_c A n c ps q w H.out hnc hn HI.out HQ.out).mono ?_
  rintro e w1 ⟨rfl, hb1⟩
  have B1 := Lib.hid hb1
  clear hb1
  cases q
  · have HG := Lib.hid (show whR D = [] by rw [whR, HV.out]; rfl)
    go_wp2_with fail
    go_ret
    exact ⟨by rw [HG.out]; rfl, B1.out⟩
  have HG := Lib.hid (show whR D = whT D by rw [whR, HV.out]; rfl)
  have hv := HV.out
  simp only [validW, Bool.and_eq_true, decide_eq_true_eq] at hv
  have HC := Lib.hid hv.2
  have hn8 : n ≤ 80 := by rw [← HL.out, ← List.length_map (f := datC), HD.out]; exact hv.1
  clear hv
  go_wp2_with fail
  refine (whileText_c (n + 1) A n c ps D w1 (by omega) (H.out.below B1.out) hnc hn8 HCP.out HD.out HC.out (HT.out.below B1.out)).mono ?_
  rintro e w2 ⟨rfl, hb2⟩
  go_wp2_with fail
  go_ret
  exact ⟨by rw [HG.out]; rfl, below_chain B1.out B1.out.size hb2⟩
end Go.Proofs.YtkchgjegdmcnaaaDoor
