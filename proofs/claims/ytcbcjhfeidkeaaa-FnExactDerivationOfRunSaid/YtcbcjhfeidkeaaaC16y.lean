/-
  Contracts of chapter 16: DerivationOfRun of the reference.
-/
import Derived.Test.YtcbcjhfeidkeaaaC16v
import Derived.Test.YtcbcjhfeidkeaaaC16n
namespace Go.Proofs.Ytcbcjhfeidkeaaa
open Go.RowKit

/-- the steps of a run, and a code -/
abbrev DvT := List (List Int) × Int
def derC (rows : List (Nat × Nat)) : Option (Int × List Int × List Int) → DvT
  | none => ([], 5)
  | some c => if roomyB c = true then (rows.map stepL, 0) else ([], 5)
def derC2 (s t : Int) (rows : List (Nat × Nat)) : Option (Int × List Int × List Int) → DvT
  | none => ([], 5)
  | some c => if confB s t c.1 c.2.1 c.2.2 = true then (rows.map stepL, 0) else ([], 5)
theorem derC2_eq {s t e : Int} {w : List Int} (rows : List (Nat × Nat)) (hs : 1 ≤ s) (he : e = s + t) (hw : ∀ x ∈ w, 0 ≤ x ∧ x ≤ e) : derC2 s t rows (cfgS s e w) = derC rows (shownW s e w) := by
  have h1 : ∀ o, derC2 s t rows o = (match o with | none => ([], 5) | some c => if confB s t c.1 c.2.1 c.2.2 = true then ((rows.map stepL, 0) : DvT) else ([], 5)) := fun o => by cases o <;> rfl
  have h2 : ∀ o, derC rows o = (match o with | none => ([], 5) | some c => if roomyB c = true then ((rows.map stepL, 0) : DvT) else ([], 5)) := fun o => by cases o <;> rfl
  rw [h1, h2]
  exact cfgS_shown _ (fun _ => ((rows.map stepL, 0) : DvT)) hs he hw
def derV (s e : Int) : Option (List Int × List (Nat × Nat) × Bool) → DvT
  | none => ([], 5)
  | some r => derC r.2.1 (shownW s e r.1)
def derW (s e : Int) (X : List Rw) (most : Nat) (W : List Int) : DvT := if W.length ≤ 400 then derV s e (runL (stB s e) X most W []) else ([], 5)
def derX (s e q : Int) (xs ys : List Int) (X : List Rw) (most : Nat) : DvT := if fitsB e X = true then derW s e X most (wordW s e q xs ys) else ([], 5)
def derR (sy st : Int) (rs : List Rule3) (q : Int) (xs ys : List Int) (b : Int) : DvT :=
  if (machB sy st rs && confB sy st q xs ys) = true then
    if inB b 0 100 = true then derX sy (sy + st) q xs ys (rwAll sy.toNat (sy + st) 0 rs) b.toNat else ([], 2)
  else ([], 1)
def DvOut (R : DvT) (w : World) (e' : Ending) (w' : World) : Prop :=
  ∃ A n c its, e' = .returned (.tuple #[.slice A n c, .int .i64 R.2]) ∧ WrS w' w.heap.size w'.heap.size (sgII A n its) ∧ (n ≤ 1000000 ∧ (∀ t ∈ its, t.n ≤ 1000000) ∧ sumN its ≤ 100000000 ∧ its.map It.xs = R.1) ∧ Below w.heap.size w w'
theorem DvOut.bad {w w' : World} (k : Int) (h : Below w.heap.size w w') : DvOut ([], k) w (.returned (.tuple #[.slice none 0 0, .int .i64 k])) w' :=
  ⟨none, 0, 0, [], rfl, WrS.one (A := none) (n := 0) (vs := []) Wr.nil, ⟨by omega, (by simp), by simp [sumN], rfl⟩, h⟩
theorem sumN_two : ∀ {its : List It}, (∀ t ∈ its, t.n = 2) → sumN its = 2 * its.length
  | [], _ => rfl
  | t :: l, h => by rw [sumN, h t (by simp), sumN_two fun u hu => h u (by simp [hu]), List.length_cons]; omega
theorem rwOk2 {sy st : Int} {rs : List Rule3} (h1 : machB sy st rs = true) : (∀ x ∈ rwAll sy.toNat (sy + st) 0 rs, LastB (stB sy (sy + st)) x) ∧ (rwAll sy.toNat (sy + st) 0 rs).Pairwise Dif := by
  simp only [machB, Bool.and_eq_true, beq_iff_eq, List.all_eq_true] at h1
  obtain ⟨⟨⟨a1, a2⟩, a3⟩, a4⟩ := h1
  have a1 := inB_t a1; have a2 := inB_t a2
  obtain ⟨s, rfl⟩ := Int.eq_ofNat_of_zero_le (show 0 ≤ sy by omega)
  obtain ⟨m, rfl⟩ := Int.eq_ofNat_of_zero_le (show 0 ≤ st by omega)
  rw [Int.toNat_natCast]
  refine ⟨rwAll_last (m := m) (by omega) rfl a4 (by
      have : ((rs.length : Nat) : Int) = ((s * m : Nat) : Int) := by rw [a3, Int.natCast_mul]
      omega), rwAll_dif (by omega) (by omega)⟩
set_option maxHeartbeats 8000000 in
set_option maxRecDepth 100000 in
theorem sDerivationOfRun0_c (sy st : Int) (RA : Option Addr) (rn rc : Nat) (rs : List Rule3) (q : Int) (XA : Option Addr) (xn xc : Nat) (xs : List Int) (YA : Option Addr) (yn yc : Nat) (ys : List Int) (bu : Int) (RR : DvT) (w : World) (h : Rd3 w RA rn rs) (hx : RdI w XA xn xs) (hy : RdI w YA yn ys) (hn : rn ≤ 1000000000) (hxn : xn ≤ 1000000000) (hyn : yn ≤ 1000000000) (hR : derR sy st rs q xs ys bu = RR) :
    Calls Try.prog 19 #[.agg #[.int .i64 sy, .int .i64 st, .slice RA rn rc], .agg #[.int .i64 q, .slice XA xn xc, .slice YA yn yc], .int .i64 bu] w (DvOut RR w) := by
  obtain ⟨w0, hw0⟩ : ∃ w0, (w.alloc (.cells #[.int .i64 sy, .int .i64 st, .slice RA rn rc] 35)).alloc (.cells #[.int .i64 q, .slice XA xn xc, .slice YA yn yc] 30) = w0 := ⟨_, rfl⟩
  have E0 := Lib.hid (show Below w.heap.size w w0 by rw [← hw0]; exact (below_size.alloc (Nat.le_refl _) _).alloc (by simp) _)
  have KM := Lib.hid (show Blk w0 w.heap.size 35 #[.int .i64 sy, .int .i64 st, .slice RA rn rc] by rw [← hw0]; exact (Blk.new _ _ _).alloc _)
  have KC := Lib.hid (show Blk w0 (w.heap.size + 1) 30 #[.int .i64 q, .slice XA xn xc, .slice YA yn yc] by rw [← hw0]; exact blk_new2 _ _ _ _ (by simp))
  have HMP := Lib.hid (show MachP w0 w.heap.size sy st RA rn rc rs from ⟨KM.out.cell 0, KM.out.cell 1, KM.out.cell 2, Rd.below h E0.out⟩)
  have HCP := Lib.hid (show ConfP w0 (w.heap.size + 1) q XA xn xc xs YA yn yc ys from ⟨KC.out.cell 0, KC.out.cell 1, KC.out.cell 2, RdI.below hx E0.out, RdI.below hy E0.out⟩)
  have hrl := Rd3.len h; have hxl := hx.len; have hyl := hy.len
  obtain ⟨v1, h1⟩ : ∃ v1, machB sy st rs = v1 := ⟨_, rfl⟩
  obtain ⟨v2, h2⟩ : ∃ v2, confB sy st q xs ys = v2 := ⟨_, rfl⟩
  obtain ⟨b, hb⟩ : ∃ b, inB bu 0 100 = b := ⟨_, rfl⟩
  have H1 := Lib.hid h1; have H2 := Lib.hid h2; have HB := Lib.hid hb
  have HR := Lib.hid (show (if (v1 && v2) = true then if b = true then derX sy (sy + st) q xs ys (rwAll sy.toNat (sy + st) 0 rs) bu.toNat else ([], 2) else ([], 1)) = RR by rw [← hR, derR, h1, h2, hb])
  have HL := Lib.hid hrl; have HXL := Lib.hid hxl; have HYL := Lib.hid hyl
  clear h hx hy hR h1 h2 hb hrl hxl hyl
  go_enter Try.func19, Try.ntmps19
  go_wp2_with fail
  refine (l05Is_c w.heap.size sy st RA rn rc rs v1 w0 HMP.out hn H1.out).mono ?_
  rintro e' w1 ⟨rfl, hb1⟩
  have E1 := Lib.hid (below_chain E0.out E0.out.size hb1)
  have HMP1 := Lib.hid (HMP.out.below hb1); have HCP1 := Lib.hid (HCP.out.below hb1)
  clear hw0 hb1 KM KC HMP HCP E0
  cases v1
  · have HR2 := Lib.hid (show (([], 1) : DvT) = RR from HR.out)
    go_wp2_with fail
    go_ret2
    rw [← HR2.out]
    exact DvOut.bad 1 E1.out
  have h1p := H1.out
  simp only [machB, Bool.and_eq_true, beq_iff_eq] at h1p
  obtain ⟨⟨⟨hsy, hst⟩, _⟩, _⟩ := h1p
  have hsy := inB_t hsy; have hst := inB_t hst
  go_wp2_with fail
  refine (l05Good_c w.heap.size sy st RA rn rc rs (w.heap.size + 1) q XA xn xc xs YA yn yc ys v2 w1 HMP1.out HCP1.out hsy hst hxn hyn H2.out).mono ?_
  rintro e' w2 ⟨rfl, hq2⟩
  have hb2 := hq2.below w1.heap.size
  have E2 := Lib.hid (below_chain E1.out E1.out.size hb2)
  have HMP2 := Lib.hid (HMP1.out.below hb2); have HCP2 := Lib.hid (HCP1.out.below hb2)
  clear hq2 hb2 E1 HMP1 HCP1
  cases v2
  · have HR2 := Lib.hid (show (([], 1) : DvT) = RR from HR.out)
    go_wp2_with fail
    go_ret2
    rw [← HR2.out]
    exact DvOut.bad 1 E2.out
  go_wp2_with fail
  refine (l00In_b bu 0 100 b HB.out w2).mono ?_
  rintro e' w' ⟨rfl, rfl⟩
  cases b
  · have HR2 := Lib.hid (show (([], 2) : DvT) = RR from HR.out)
    go_wp2_with fail
    go_ret2
    rw [← HR2.out]
    exact DvOut.bad 2 E2.out
  obtain ⟨a1, a2, a3, a4, a5, a6, a7, a8, a9, a10⟩ := rwOk H1.out H2.out
  have a11 := inB_t HB.out
  have HR2 := Lib.hid (show derX sy (sy + st) q xs ys (rwAll sy.toNat (sy + st) 0 rs) bu.toNat = RR from HR.out)
  clear HB HR H2 hsy hst
  obtain ⟨s, rfl⟩ := Int.eq_ofNat_of_zero_le (show 0 ≤ sy by omega)
  obtain ⟨B, rfl⟩ := Int.eq_ofNat_of_zero_le (show 0 ≤ bu by omega)
  obtain ⟨e, he⟩ : ∃ e, (s : Int) + st = e := ⟨_, rfl⟩
  rw [Int.toNat_natCast] at a10
  rw [he] at a10
  obtain ⟨X, hX⟩ : ∃ X, rwAll s e 0 rs = X := ⟨_, rfl⟩
  rw [hX] at a10
  obtain ⟨W, hW⟩ : ∃ W, wordW s e q xs ys = W := ⟨_, rfl⟩
  have HR3 := Lib.hid (show derX s e q xs ys X B = RR by have := HR2.out; rw [Int.toNat_natCast, Int.toNat_natCast, he, hX] at this; exact this)
  have A9 := Lib.hid a9; have A10 := Lib.hid a10
  have HXX := Lib.hid hX; have HWW := Lib.hid hW; have HE := Lib.hid he.symm
  have b4 : xn ≤ 200 := by have := HXL.out; omega
  have b5 : yn ≤ 200 := by have := HYL.out; omega
  have b8 : rn ≤ 10000 := by have := HL.out; omega
  have b1 : 2 ≤ s ∧ s ≤ 6 := by omega
  have b9 : B ≤ 100 := by omega
  have b6 : 0 ≤ q ∧ q ≤ 1000 := by omega
  have HGW := Lib.hid (show GoodW s e W by rw [← hW]; exact wordW_good (by omega) (by omega) a6 a7)
  obtain ⟨hlb, hdf⟩ := rwOk2 H1.out
  rw [Int.toNat_natCast, he, hX] at hlb hdf
  have HLB := Lib.hid hlb; have HDF := Lib.hid hdf
  clear a4 a5 a6 a7 a8 a9 a10 HR2 hX hW he HXL HYL HL hlb hdf H1
  go_wp2_with fail
  refine (l16Rules_c w.heap.size s st e RA rn rc rs X w2 HMP2.out b1 HE.out a2 b8 A9.out HXX.out).mono ?_
  rintro e' w3 ⟨P, m, pc, ts, rfl, hL, hT, hb3⟩
  have hXl : m = X.length := by rw [← hT, List.length_map]; exact hL.len.symm
  obtain ⟨fb, hfb⟩ : ∃ fb, (decide (0 < X.length) && decide (X.length ≤ 60) && decide (e ≤ 9)) = fb := ⟨_, rfl⟩
  have HFB := Lib.hid (show fitsB e X = fb by
    rw [← hfb, fitsB]
    by_cases q1 : e ≤ 9 <;> by_cases q2 : 0 < X.length <;> by_cases q3 : X.length ≤ 60 <;> simp [q1, q2, q3, Nat.succ_le_iff])
  rw [hfb]
  have E3 := Lib.hid (below_chain E2.out E2.out.size hb3)
  have HMP3 := Lib.hid (HMP2.out.below hb3); have HCP3 := Lib.hid (HCP2.out.below hb3)
  have D3 := Lib.hid hL.rwD; have HT := Lib.hid hT; have HXLN := Lib.hid hXl
  clear hL hT hb3 hXl hfb E2 HMP2 HCP2
  go_wp2_with fail
  refine (l16Word_c w.heap.size s st e RA rn rc rs (w.heap.size + 1) q XA xn xc xs YA yn yc ys W w3 HMP3.out HCP3.out b1 HE.out a2 b6 b4 b5 HWW.out).mono ?_
  rintro e' w4 ⟨AW, cW, rfl, hRW, hWl, hWc, hb4⟩
  obtain ⟨l, hl⟩ : ∃ l, W.length = l := ⟨_, rfl⟩
  rw [hl] at hRW hWc hWl ⊢
  have HWL := Lib.hid hl
  have HRW := Lib.hid (show RdI w4 AW l W from hRW.rdI)
  have E4 := Lib.hid (below_chain E3.out E3.out.size hb4)
  have HMP4 := Lib.hid (HMP3.out.below hb4)
  have D4 := Lib.hid (D3.out.below hb4)
  have hl403 : l ≤ 403 := by omega
  clear hRW hWl hb4 hl E3 HMP3 HCP3 D3
  cases fb
  · have HR4 := Lib.hid (show (([], 5) : DvT) = RR by rw [← HR3.out, derX, if_neg (by rw [HFB.out]; simp)])
    go_wp2_with fail
    go_ret2
    rw [← HR4.out]
    exact DvOut.bad 5 E4.out
  have HFX := Lib.hid (show e ≤ 9 ∧ 1 ≤ X.length ∧ X.length ≤ 60 by
    have hf := HFB.out
    simp only [fitsB, Bool.and_eq_true, decide_eq_true_eq] at hf
    exact ⟨hf.1.1, hf.1.2, hf.2⟩)
  have hm60 : m ≤ 60 := by have h1 := HFX.out; have h2 := HXLN.out; omega
  have HR4 := Lib.hid (show derW s e X B W = RR by rw [← HR3.out, derX, if_pos HFB.out, HWW.out])
  by_cases h4 : l ≤ 400
  · have g4 : decide ((400 : Int) < (l : Int)) = false := by rw [decide_eq_false_iff_not]; omega
    obtain ⟨RL, hRL⟩ : ∃ RL, runL (stB s e) X B W [] = RL := ⟨_, rfl⟩
    have HRLL := Lib.hid hRL
    have HR5 := Lib.hid (show derV s e RL = RR by rw [← HR4.out, derW, if_pos (by rw [HWL.out]; exact h4), hRL])
    have HTG := Lib.hid (show ∀ t k b, RL = some (t, k, b) → (∀ x ∈ t, 0 ≤ x ∧ x ≤ e) ∧ k.length ≤ B from fun t k b h9 => by
      have := runL_good A10.out HGW.out (by rw [HWL.out]; exact h4) (hRL.trans h9)
      exact ⟨this.1.ltr, this.2.2⟩)
    clear hRL
    go_wp2_with fail
    refine (l16Run_c s e P m pc ts X AW l cW W B RL w4 D4.out HT.out A10.out HDF.out HLB.out HRW.out HGW.out.one h4 hWc hm60 (by omega) HRLL.out).mono ?_
    intro e' w6 hrn
    rcases RL with _ | ⟨T, rows, b⟩
    · obtain ⟨rfl, hb6⟩ := hrn
      have E6 := Lib.hid (below_chain E4.out E4.out.size hb6)
      have HMP6 := Lib.hid (HMP4.out.below hb6)
      have HR6 := Lib.hid (show (([], 5) : DvT) = RR from HR5.out)
      clear hb6
      go_wp2_with fail
      refine (l16Config_c w.heap.size s st e RA rn rc rs none 0 0 [] none w6 HMP6.out RdI.nil (by omega) a2 HE.out (by omega) (by omega) (by simp) (by simp [cfgS, frameB])).mono ?_
      intro e' w7 hcf
      obtain ⟨rfl, hb7⟩ := hcf
      have HR7 := Lib.hid (show (([], 5) : DvT) = RR from HR6.out)
      have E7 := Lib.hid (below_chain E6.out E6.out.size hb7)
      obtain ⟨wx, hwx⟩ : ∃ wx, w7.alloc (.cells #[.int .i64 0, .slice none 0 0, .slice none 0 0] 30) = wx := ⟨_, rfl⟩
      have KX := Lib.hid (show Blk wx w7.heap.size 30 #[.int .i64 0, .slice none 0 0, .slice none 0 0] by rw [← hwx]; exact Blk.new _ _ _)
      have Ex := Lib.hid (show Below w.heap.size w wx by rw [← hwx]; exact E7.out.alloc E7.out.size _)
      have hz7 := E7.out.size
      obtain ⟨d, hd⟩ : ∃ d, w7.heap.size = d := ⟨_, rfl⟩
      rw [hd] at KX hz7
      have x0 : (wx).cell? ⟨d, 0, none⟩ = some (.int .i64 0) := KX.out.cell 0
      have x1 : (wx).cell? ⟨d, 1, none⟩ = some (.slice none 0 0) := KX.out.cell 1
      have x2 : (wx).cell? ⟨d, 2, none⟩ = some (.slice none 0 0) := KX.out.cell 2
      have g0 := KX.out.frozen 0; have g1 := KX.out.frozen 1; have g2 := KX.out.frozen 2
      obtain ⟨wy, hwy⟩ : ∃ wy, ((wx.setCell ⟨d, 0, none⟩ (.int .i64 0)).setCell ⟨d, 1, none⟩ (.slice none 0 0)).setCell ⟨d, 2, none⟩ (.slice none 0 0) = wy := ⟨_, rfl⟩
      have Ey := Lib.hid (show Below w.heap.size w wy by rw [← hwy]; exact ((Ex.out.setCell (by exact hz7) _).setCell (by exact hz7) _).setCell (by exact hz7) _)
      clear hb7
      go_wp2_with fail
      go_ret2
      rw [← HR7.out]
      exact DvOut.bad 5 Ey.out
    · obtain ⟨A6, n6, c6, O6, oc6, its, rfl, hR6, hnc6, hn6, hWI, hIX, hI2, hb6⟩ := hrn
      have hTG := HTG.out T rows b rfl
      have hil : its.length = rows.length := by have := congrArg List.length hIX; simpa using this
      obtain ⟨k, hk⟩ : ∃ k, rows.length = k := ⟨_, rfl⟩
      rw [hk] at hWI hTG hil ⊢
      have E6 := Lib.hid (below_chain E4.out E4.out.size hb6)
      have HMP6 := Lib.hid (HMP4.out.below hb6)
      have HT6 := Lib.hid hR6; have HTL := Lib.hid hTG.1; have HKB := Lib.hid hTG.2; have HIL := Lib.hid hil
      have WI := Lib.hid (hWI.wider E4.out.size (Nat.le_refl _)); have HIX := Lib.hid hIX; have HI2 := Lib.hid hI2
      obtain ⟨CV, hCV⟩ : ∃ CV, cfgS s e T = CV := ⟨_, rfl⟩
      have HCV := Lib.hid hCV
      have HR6 := Lib.hid (show derC2 s st rows CV = RR by rw [← hCV, derC2_eq rows (by omega) HE.out hTG.1]; exact HR5.out)
      clear hR6 hb6 hTG hCV hk hWI hIX hI2 hil
      go_wp2_with fail
      refine (l16Config_c w.heap.size s st e RA rn rc rs A6 n6 c6 T CV w6 HMP6.out HT6.out (by omega) a2 HE.out (by omega) hnc6 (fun x hx => by have := HTL.out x hx; have := HFX.out; omega) HCV.out).mono ?_
      intro e' w7 hcf
      rcases CV with _ | ⟨q2, L, M⟩
      · skip
        obtain ⟨rfl, hb7⟩ := hcf
        have HR7 := Lib.hid (show (([], 5) : DvT) = RR from HR6.out)
        have E7 := Lib.hid (below_chain E6.out E6.out.size hb7)
        obtain ⟨wx, hwx⟩ : ∃ wx, w7.alloc (.cells #[.int .i64 0, .slice none 0 0, .slice none 0 0] 30) = wx := ⟨_, rfl⟩
        have KX := Lib.hid (show Blk wx w7.heap.size 30 #[.int .i64 0, .slice none 0 0, .slice none 0 0] by rw [← hwx]; exact Blk.new _ _ _)
        have Ex := Lib.hid (show Below w.heap.size w wx by rw [← hwx]; exact E7.out.alloc E7.out.size _)
        have hz7 := E7.out.size
        obtain ⟨d, hd⟩ : ∃ d, w7.heap.size = d := ⟨_, rfl⟩
        rw [hd] at KX hz7
        have x0 : (wx).cell? ⟨d, 0, none⟩ = some (.int .i64 0) := KX.out.cell 0
        have x1 : (wx).cell? ⟨d, 1, none⟩ = some (.slice none 0 0) := KX.out.cell 1
        have x2 : (wx).cell? ⟨d, 2, none⟩ = some (.slice none 0 0) := KX.out.cell 2
        have g0 := KX.out.frozen 0; have g1 := KX.out.frozen 1; have g2 := KX.out.frozen 2
        obtain ⟨wy, hwy⟩ : ∃ wy, ((wx.setCell ⟨d, 0, none⟩ (.int .i64 0)).setCell ⟨d, 1, none⟩ (.slice none 0 0)).setCell ⟨d, 2, none⟩ (.slice none 0 0) = wy := ⟨_, rfl⟩
        have Ey := Lib.hid (show Below w.heap.size w wy by rw [← hwy]; exact ((Ex.out.setCell (by exact hz7) _).setCell (by exact hz7) _).setCell (by exact hz7) _)
        clear hb7
        go_wp2_with fail
        go_ret2
        rw [← HR7.out]
        exact DvOut.bad 5 Ey.out
      · obtain ⟨AL, cL, AM, cM, rfl, _, _, hb7⟩ := hcf
        obtain ⟨bb, hbb⟩ : ∃ bb, confB s st q2 L M = bb := ⟨_, rfl⟩
        rw [hbb]
        have HR7 := Lib.hid (show (if bb = true then ((rows.map stepL, 0) : DvT) else ([], 5)) = RR by rw [← HR6.out, derC2, hbb])
        have E7 := Lib.hid (below_chain E6.out E6.out.size hb7)
        have WI7 := Lib.hid (WI.out.below hb7)
        have HZ7 := Lib.hid hb7.size
        clear hb7 hbb
        cases bb
        · have HR8 := Lib.hid (show (([], 5) : DvT) = RR from HR7.out)
          go_wp2_with fail
          go_ret2
          rw [← HR8.out]
          exact DvOut.bad 5 (E7.out.alloc E7.out.size _)
        · have HR8 := Lib.hid (show ((rows.map stepL, 0) : DvT) = RR from HR7.out)
          go_wp2_with fail
          go_ret2
          rw [← HR8.out]
          exact ⟨O6, k, oc6, its, rfl, (WI7.out.alloc _).wider (Nat.le_refl _) (Nat.le_trans HZ7.out (by simp)), ⟨by have := HKB.out; omega, (fun t ht => by rw [HI2.out t ht]; omega), by rw [sumN_two HI2.out, HIL.out]; have := HKB.out; omega, HIX.out⟩, E7.out.alloc E7.out.size _⟩
  · have g4 : decide ((400 : Int) < (l : Int)) = true := by rw [decide_eq_true_eq]; omega
    have HR5 := Lib.hid (show (([], 5) : DvT) = RR by rw [← HR4.out, derW, if_neg (by rw [HWL.out]; exact h4)])
    go_wp2_with fail
    go_ret2
    rw [← HR5.out]
    exact DvOut.bad 5 E4.out
end Go.Proofs.Ytcbcjhfeidkeaaa
