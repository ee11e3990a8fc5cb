/-
  Contracts of chapter 28 (automata): whether the abstraction of a configuration is reached.
-/
import Derived.Test.YtfahdgmlhinabaaC28u
namespace Go.Proofs.Ytfahdgmlhinabaa
open Go.RowKit

def absN (sy : Int) (xl xr : List Int) (s : Int) (xs ys : List Int) : Nd := (runF sy xl xs.reverse 0, s, ys.getD 0 0, runF sy xr ys.tail.reverse 0)
theorem absN_L (sy : Int) (xl xr : List Int) (s : Int) (xs ys : List Int) : ndL (absN sy xl xr s xs ys) = absL sy xl xr s xs ys := rfl
def accO (o : Option (List Nd)) (y : Nd) : Bool × Int := match o with | none => (false, 5) | some l => (decide (y ∈ l), 0)
def accR (sy st : Int) (rs : List Rule3) (sl : Int) (xl : List Int) (sr : Int) (xr : List Int) (s : Int) (xs ys : List Int) : Bool × Int :=
  if readyB sy st rs sl xl sr xr && confB sy st s xs ys then accO (clR rs sy xl xr) (absN sy xl xr s xs ys) else (false, 1)
theorem clGo_len {rs : List Rule3} {sy : Int} {xl xr : List Int} : ∀ (f k : Nat) (l o : List Nd), l.length ≤ 3000 → clGo rs sy xl xr f k l = some o → o.length ≤ 3000
  | 0, k, l, o, _, h => by rw [clGo] at h; cases h
  | f + 1, k, l, o, h0, h => by
    by_cases hk : k < l.length
    · have hx := List.getElem?_eq_getElem hk
      by_cases hb : 3000 < ((stepsN rs sy xl xr l[k]).foldl addN l).length
      · rw [clGo_full hx hb] at h; cases h
      · rw [clGo_on hx hb] at h
        exact clGo_len f (k + 1) _ o (by omega) h
    · rw [clGo_end (by omega)] at h
      injection h with h; subst h; exact h0
theorem ndL_mem {l : List Nd} {y : Nd} : ndL y ∈ l.map ndL ↔ y ∈ l := by
  refine ⟨fun h => ?_, fun h => List.mem_map_of_mem h⟩
  obtain ⟨z, hz, e⟩ := List.mem_map.1 h
  exact ndL_inj e ▸ hz
set_option maxHeartbeats 4000000 in
theorem sAcceptsConfig_c (sy st : Int) (A : Option Addr) (n cp : Nat) (rs : List Rule3) (sl : Int) (Al : Option Addr) (nl cl : Nat) (xl : List Int) (sr : Int) (Ar : Option Addr) (nr cr : Nat) (xr : List Int) (s : Int) (A2 : Option Addr) (n2 c2 : Nat) (xs : List Int) (A3 : Option Addr) (n3 c3 : Nat) (ys : List Int) (w : World)
    (h : RdS w [sgX enc3 3 A n rs]) (h' : RdI w Al nl xl) (h'' : RdI w Ar nr xr) (h''' : RdS w ([sgI A2 n2 xs] ++ [sgI A3 n3 ys])) (hn : n ≤ 1000000000) (hn' : nl ≤ 1000000000) (hn'' : nr ≤ 1000000000) (hn2 : n2 ≤ 1000000000) (hn3 : n3 ≤ 1000000000) (hnc : n3 ≤ c3) :
    Calls Try.prog 44 #[.agg #[.int .i64 sy, .int .i64 st, .slice A n cp], .agg #[.int .i64 sl, .slice Al nl cl], .agg #[.int .i64 sr, .slice Ar nr cr], .agg #[.int .i64 s, .slice A2 n2 c2, .slice A3 n3 c3]] w
      fun e w' => e = .returned (.tuple #[.bool (accR sy st rs sl xl sr xr s xs ys).1, .int .i64 (accR sy st rs sl xl sr xr s xs ys).2]) ∧ Below w.heap.size w w' := by
  obtain ⟨w0, hw0, b0, b1, b2, b3, hB0, hz0⟩ := boxes4 w 32 61 61 78 #[i64 sy, i64 st, .slice A n cp] #[i64 sl, .slice Al nl cl] #[i64 sr, .slice Ar nr cr] #[i64 s, .slice A2 n2 c2, .slice A3 n3 c3]
  have B0 := Lib.hid hB0
  have M0 := Lib.hid (show MachP w0 w.heap.size sy st A n cp rs from ⟨b0.cell 0, b0.cell 1, b0.cell 2, Rd.below h.head hB0⟩)
  have L0 := Lib.hid (show DfaP w0 (w.heap.size + 1) sl Al nl cl xl from ⟨b1.cell 0, b1.cell 1, h'.below hB0⟩)
  have R0 := Lib.hid (show DfaP w0 (w.heap.size + 1 + 1) sr Ar nr cr xr from ⟨b2.cell 0, b2.cell 1, h''.below hB0⟩)
  have C0 := Lib.hid (show ConfP w0 (w.heap.size + 1 + 1 + 1) s A2 n2 c2 xs A3 n3 c3 ys from ⟨b3.cell 0, b3.cell 1, b3.cell 2, Rd.below h'''.left.head hB0, Rd.below h'''.right.head hB0⟩)
  have HL2 := Lib.hid (show xs.length = n2 from RdI.len (show RdI w A2 n2 xs from h'''.left.head)); have HL3 := Lib.hid (show ys.length = n3 from RdI.len (show RdI w A3 n3 ys from h'''.right.head))
  obtain ⟨u, hu⟩ : ∃ u, readyB sy st rs sl xl sr xr = u := ⟨_, rfl⟩
  obtain ⟨v, hv⟩ : ∃ v, confB sy st s xs ys = v := ⟨_, rfl⟩
  obtain ⟨R, hR⟩ : ∃ R, accR sy st rs sl xl sr xr s xs ys = R := ⟨_, rfl⟩
  rw [hR]
  have HR := Lib.hid (show R = if u && v then accO (clR rs sy xl xr) (absN sy xl xr s xs ys) else (false, 1) by rw [← hR, accR, hu, hv])
  have HU := Lib.hid hu; have HV := Lib.hid hv
  clear h h' h'' h''' b0 b1 b2 b3 hB0 hR hv hz0
  go_enter Try.func44, Try.ntmps44
  go_wp2_with fail
  refine (l28Ready_c _ sy st A n cp rs _ sl Al nl cl xl _ sr Ar nr cr xr u _ (by exact M0.out) (by exact L0.out) (by exact R0.out) hn hn' hn'' hu).mono ?_
  rintro e w1 ⟨rfl, hb⟩
  have M1 := Lib.hid (M0.out.below hb); have L1 := Lib.hid (L0.out.below hb); have R1 := Lib.hid (R0.out.below hb); have C1 := Lib.hid (C0.out.below hb)
  have B1 := Lib.hid (below_chain B0.out B0.out.size hb)
  clear hb hu hw0
  cases u
  · go_wp2_with fail
    go_ret2
    rw [HR.out]
    exact ⟨rfl, B1.out⟩
  obtain ⟨hm, hdl, hdr⟩ := readyB_parts HU.out
  have hbd := machB_bd hm
  have HM := Lib.hid hm; have HDL := Lib.hid hdl; have HDR := Lib.hid hdr
  obtain ⟨_, _, f3⟩ := size_bd hdl.stt hbd.2.1 hbd.1 hdr.stt
  obtain ⟨kz, hkz⟩ := Int.eq_ofNat_of_zero_le (show 0 ≤ sl * st * sy * sr by omega)
  have HKZ := Lib.hid hkz
  clear hdl hdr hm f3 hkz
  go_wp2_with fail
  refine (l05Good_c _ sy st A n cp rs _ s A2 n2 c2 xs A3 n3 c3 ys v _ (by exact M1.out) (by exact C1.out) hbd.1 hbd.2.1 hn2 hn3 HV.out).mono ?_
  rintro e w2 ⟨rfl, ⟨k2, rfl⟩⟩
  clear hbd
  cases v
  · go_wp2_with fail
    go_ret2
    rw [HR.out]
    exact ⟨rfl, below_drewN B1.out _⟩
  obtain ⟨hx, hy, hlx, hly⟩ := confB_parts HV.out
  have HX := Lib.hid hx; have HY := Lib.hid hy
  have hq2 : n2 ≤ 200 := by have := HL2.out; omega
  have hq3 : n3 ≤ 200 := by have := HL3.out; omega
  have bd := below_drewN (below_size (w := w1)) k2
  have M2 := Lib.hid (M1.out.below bd); have L2 := Lib.hid (L1.out.below bd); have R2 := Lib.hid (R1.out.below bd); have C2 := Lib.hid (C1.out.below bd)
  have HC := Lib.hid (l28Closure_c _ sy st A n cp rs _ sl Al nl cl xl _ sr Ar nr cr xr kz (w1.drewN k2) M2.out L2.out R2.out HM.out HDL.out HDR.out HKZ.out.symm)
  have HOK := Lib.hid (fun (l : List Nd) (h : clR rs sy xl xr = some l) => clR_ok HM.out HDL.out HDR.out h)
  have HSM := Lib.hid (fun (l : List Nd) (h : clR rs sy xl xr = some l) (y : Nd) => sortN_mem HKZ.out.symm (clR_ok HM.out HDL.out HDR.out h) y)
  obtain ⟨o, ho⟩ : ∃ o, clR rs sy xl xr = o := ⟨_, rfl⟩
  rw [ho] at HC HR HSM
  clear hx hy hlx hly bd HOK ho
  go_wp2_with fail
  refine HC.out.mono ?_
  rintro e w3 ⟨A5, n5, c5, its, rfl, hw, hn5, h4, hxx, hb⟩
  have I3 := Lib.hid hw.rd; have XX := Lib.hid hxx; have H4 := Lib.hid h4
  have M3 := Lib.hid (M2.out.below hb); have L3 := Lib.hid (L2.out.below hb); have R3 := Lib.hid (R2.out.below hb); have C3 := Lib.hid (C2.out.below hb)
  have B3 := Lib.hid (below_chain (below_drewN B1.out k2) (below_drewN B1.out k2).size hb)
  clear hw h4 hxx hb HC
  cases o with
  | none =>
    go_wp2_with fail
    go_ret2
    rw [HR.out]
    exact ⟨rfl, B3.out⟩
  | some l =>
    go_wp2_with fail
    refine (l28Abstract_c _ sy st A n cp rs _ sl Al nl cl xl _ sr Ar nr cr xr _ s A2 n2 c2 xs A3 n3 c3 ys _ (by exact M3.out) (by exact L3.out) (by exact R3.out) (by exact C3.out) HDL.out HDR.out HX.out HY.out (by omega) (by omega) hnc).mono ?_
    rintro e w4 ⟨A', c', rfl, hw, hb⟩
    have W4 := Lib.hid hw.rdI; have B4 := Lib.hid (below_chain B3.out B3.out.size hb)
    have I4 := Lib.hid (I3.out.below hb)
    have HQ := Lib.hid (show decide (0 ≤ rowAt (absL sy xl xr s xs ys) 0 (its.map It.xs)) = decide (absN sy xl xr s xs ys ∈ l) by
      rw [rowAt_mem, XX.out, ← absN_L]
      exact decide_eq_decide.2 (ndL_mem.trans (HSM.out l rfl _)))
    clear hw hb
    go_wp2_with fail
    refine (l10Row_c A5 n5 c5 its A' _ c' (absL sy xl xr s xs ys) _ (by exact I4.out) (by exact W4.out) (by omega) (fun t ht => by have := H4.out t ht; omega)).mono ?_
    rintro e w5 ⟨rfl, hq⟩
    have B5 := Lib.hid (below_chain B4.out B4.out.size (hq.below _))
    generalize rowAt (absL sy xl xr s xs ys) 0 (its.map It.xs) = E at *
    have kE := HQ.out
    clear hq
    go_wp2_with fail
    go_ret2
    rw [HR.out]
    exact ⟨by first | rfl | (simp only [accO, if_pos, Bool.and_self]; rw [← HQ.out]; rfl), B5.out⟩
theorem outline_eq (a b c d a' b' c' d' : Int) (w : World) : (Op.equalIn 10000 129 (.agg #[.int .i64 a, .int .i64 b, .int .i64 c, .int .i64 d]) (.agg #[.int .i64 a', .int .i64 b', .int .i64 c', .int .i64 d'])).run Try.prog w = .ok (decide (((a, b, c, d) : Nd) = (a', b', c', d'))) w := by
  have pt0 : ∀ p q r s : Int, (part 2 #[.int .i64 p, .int .i64 q, .int .i64 r, .int .i64 s] 0).run Try.prog w = .ok (.int .i64 p) w := fun p q r s => by kernel_rfl
  have pt1 : ∀ p q r s : Int, (part 2 #[.int .i64 p, .int .i64 q, .int .i64 r, .int .i64 s] 1).run Try.prog w = .ok (.int .i64 q) w := fun p q r s => by kernel_rfl
  have pt2 : ∀ p q r s : Int, (part 2 #[.int .i64 p, .int .i64 q, .int .i64 r, .int .i64 s] 2).run Try.prog w = .ok (.int .i64 r) w := fun p q r s => by kernel_rfl
  have pt3 : ∀ p q r s : Int, (part 2 #[.int .i64 p, .int .i64 q, .int .i64 r, .int .i64 s] 3).run Try.prog w = .ok (.int .i64 s) w := fun p q r s => by kernel_rfl
  have hc : Try.prog.cellsOf 2 = 1 := by kernel_rfl
  obtain ⟨i, hi⟩ : ∃ i, Try.prog.info? 2 = some i := Option.isSome_iff_exists.1 (by kernel_rfl)
  refine (run_equalIn_array (P := Try.prog) (w := w) 9999 #[.int .i64 a, .int .i64 b, .int .i64 c, .int .i64 d] #[.int .i64 a', .int .i64 b', .int .i64 c', .int .i64 d'] Try.underlying129 hi).trans ?_
  rw [hc]
  simp only [List.range, List.range.loop, Op.eqItems, Nat.mul_one, pt0, Sem.run_bind, Result.andThen_ok, run_equalIn_int w _ _ _ _ _ _ Try.underlying2]
  by_cases ha : a = a' <;> by_cases hb : b = b' <;> by_cases hc : c = c' <;> by_cases hd : d = d' <;> simp [ha, hb, hc, hd, pt1, pt2, pt3, Result.andThen, run_equalIn_int w _ _ _ _ _ _ Try.underlying2]
def idxN (y : Nd) : Nat → List Nd → Int
  | _, [] => -1
  | k, x :: l => if y = x then k else idxN y (k + 1) l
theorem idxN_mem (y : Nd) : ∀ (l : List Nd) (k : Nat), decide (0 ≤ idxN y k l) = decide (y ∈ l)
  | [], k => by simp [idxN]
  | x :: l, k => by
    rw [idxN]
    by_cases h : y = x
    · simp [h]
    · rw [if_neg h, idxN_mem y l]; simp [h]
set_option maxHeartbeats 2000000 in
set_option maxRecDepth 100000 in
theorem indexO_c (A : Option Addr) (n c : Nat) (l : List Nd) (y : Nd) (w : World) (h : Rd w A (n * 4) (l.flatMap enc4)) (hl : l.length = n) (hn : n ≤ 100000) :
    Calls Try.prog 133 #[.slice A n c, key4 y] w fun e w' => e = .returned (.int .i64 (idxN y 0 l)) ∧ Below w.heap.size w w' := by
  obtain ⟨R, hR⟩ : ∃ R, idxN y 0 l = R := ⟨_, rfl⟩
  rw [hR]
  have HR := Lib.hid hR; have HL := Lib.hid hl
  obtain ⟨a, b, c0, d⟩ := y
  obtain ⟨w0, hw0⟩ : ∃ w0, w.alloc (.cells #[.int .i64 a, .int .i64 b, .int .i64 c0, .int .i64 d] 129) = w0 := ⟨_, rfl⟩
  have B0 := Lib.hid (show Below w.heap.size w w0 by rw [← hw0]; exact below_size.alloc (Nat.le_refl _) _)
  have X0 := Lib.hid (show Blk w0 w.heap.size 129 #[.int .i64 a, .int .i64 b, .int .i64 c0, .int .i64 d] by rw [← hw0]; exact Blk.new w _ _)
  have H := Lib.hid (Rd.below h B0.out)
  clear h hl hR
  unfold key4
  go_enter Try.func133, Try.ntmps133
  go_wp2_with fail
  clear hw0
  go_loopw [8] (fun iv wr => ∃ k : Nat, k ≤ n ∧ iv = .int .i64 k ∧ Hid (idxN (a, b, c0, d) k (l.drop k) = R) ∧ Below w0.heap.size w0 wr) (fun iv _ => n - (intOf iv).toNat)
  case atStart => exact ⟨0, by omega, rfl, HR.out, below_size⟩
  case round =>
    obtain ⟨k, hk, rfl, hgo, hb⟩ := hrel
    have HB := Lib.hid hb
    by_cases hlt : k < n
    · obtain ⟨⟨p, q, r, s⟩, hx⟩ : ∃ x : Nd, l[k]? = some x := ⟨_, List.getElem?_eq_getElem (by rw [HL.out]; exact hlt)⟩
      obtain ⟨ad, rfl, _, hc⟩ := (Rd.below H.out hb).2 (by omega)
      obtain ⟨e0, e1, e2, e3⟩ := enc4_at hx
      have d0 : wr.cell? (ad.add (k * 4)) = some (.int .i64 p) := hc _ _ e0
      have d1' : wr.cell? ⟨(ad.add (k * 4)).block, (ad.add (k * 4)).off + 1, none⟩ = some (.int .i64 q) := (by rw [next_off ad (k * 4) 0]; exact hc _ _ e1)
      have d2' : wr.cell? ⟨(ad.add (k * 4)).block, (ad.add (k * 4)).off + 2, none⟩ = some (.int .i64 r) := (by rw [next_off ad (k * 4) 1]; exact hc _ _ e2)
      have d3' : wr.cell? ⟨(ad.add (k * 4)).block, (ad.add (k * 4)).off + 3, none⟩ = some (.int .i64 s) := (by rw [next_off ad (k * 4) 2]; exact hc _ _ e3)
      have XR := X0.out.keep hb
      have x0 := XR.cell 0; have x1 := XR.cell 1; have x2 := XR.cell 2; have x3 := XR.cell 3
      simp at x0 x1 x2 x3
      have HS := Lib.hid (show (if (a, b, c0, d) = (p, q, r, s) then (k : Int) else idxN (a, b, c0, d) (k + 1) (l.drop (k + 1))) = R by rw [← hgo.out, drop_at hx, idxN])
      have he := outline_eq a b c0 d p q r s
      obtain ⟨u, hu⟩ : ∃ u, decide (((a, b, c0, d) : Nd) = (p, q, r, s)) = u := ⟨_, rfl⟩
      have HU := Lib.hid hu
      rw [hu] at he
      clear hb hgo hx hc e0 e1 e2 e3 XR hu
      cases u
      · have HS2 := Lib.hid (show idxN (a, b, c0, d) (k + 1) (l.drop (k + 1)) = R by rw [← HS.out, if_neg (of_decide_eq_false HU.out)])
        go_wp2_with fail
        go_quiet (fail)
        go_wp2_with fail
        go_roundw
        case rel => exact ⟨k + 1, by omega, by go_num, HS2.out, below_drewN HB.out _⟩
        case measure => simp [intOf]; omega
      · have HS2 := Lib.hid (show (k : Int) = R by rw [← HS.out, if_pos (of_decide_eq_true HU.out)])
        go_wp2_with fail
        go_quiet (fail)
        go_wp2_with fail
        go_ret
        exact ⟨by rw [← HS2.out]; rfl, B0.out.trans (below_drewN (HB.out.mono B0.out.size) _)⟩
    · have HS2 := Lib.hid (show R = -1 by rw [← hgo.out, List.drop_eq_nil_of_le (by rw [HL.out]; omega)]; rfl)
      clear hb
      go_wp2_with fail
      go_ret
      exact ⟨by rw [HS2.out]; rfl, B0.out.trans (HB.out.mono B0.out.size)⟩
set_option maxHeartbeats 1000000 in
theorem containsO_c (A : Option Addr) (n c : Nat) (l : List Nd) (y : Nd) (w : World) (h : Rd w A (n * 4) (l.flatMap enc4)) (hl : l.length = n) (hn : n ≤ 100000) :
    Calls Try.prog 88 #[.slice A n c, key4 y] w fun e w' => e = .returned (.bool (decide (y ∈ l))) ∧ Below w.heap.size w w' := by
  have HC := Lib.hid (indexO_c A n c l y (w.alloc (.cells #[.int .i64 y.1, .int .i64 y.2.1, .int .i64 y.2.2.1, .int .i64 y.2.2.2] 129)) (Rd.alloc h _) hl hn)
  have HQ := Lib.hid (idxN_mem y l 0)
  clear h
  unfold key4 at HC
  unfold key4
  go_enter Try.func88, Try.ntmps88
  go_wp2_with fail
  refine HC.out.mono ?_
  rintro e w1 ⟨rfl, hb⟩
  have B1 := Lib.hid (up1 hb)
  clear hb HC
  generalize idxN y 0 l = E at *
  go_wp2_with fail
  go_ret
  exact ⟨by rw [← HQ.out]; rfl, B1.out⟩
set_option maxHeartbeats 4000000 in
theorem iAcceptsConfig_c (sy st : Int) (A : Option Addr) (n cp : Nat) (rs : List Rule3) (sl : Int) (Al : Option Addr) (nl cl : Nat) (xl : List Int) (sr : Int) (Ar : Option Addr) (nr cr : Nat) (xr : List Int) (s : Int) (A2 : Option Addr) (n2 c2 : Nat) (xs : List Int) (A3 : Option Addr) (n3 c3 : Nat) (ys : List Int) (w : World)
    (h : RdS w [sgX enc3 3 A n rs]) (h' : RdI w Al nl xl) (h'' : RdI w Ar nr xr) (h''' : RdS w ([sgI A2 n2 xs] ++ [sgI A3 n3 ys])) (hn : n ≤ 1000000000) (hn' : nl ≤ 1000000000) (hn'' : nr ≤ 1000000000) (hn2 : n2 ≤ 1000000000) (hn3 : n3 ≤ 1000000000) (hnc : n3 ≤ c3) :
    Calls Try.prog 46 #[.agg #[.int .i64 sy, .int .i64 st, .slice A n cp], .agg #[.int .i64 sl, .slice Al nl cl], .agg #[.int .i64 sr, .slice Ar nr cr], .agg #[.int .i64 s, .slice A2 n2 c2, .slice A3 n3 c3]] w
      fun e w' => e = .returned (.tuple #[.bool (accR sy st rs sl xl sr xr s xs ys).1, .int .i64 (accR sy st rs sl xl sr xr s xs ys).2]) ∧ Below w.heap.size w w' := by
  obtain ⟨w0, hw0, b0, b1, b2, b3, hB0, hz0⟩ := boxes4 w 32 61 61 78 #[i64 sy, i64 st, .slice A n cp] #[i64 sl, .slice Al nl cl] #[i64 sr, .slice Ar nr cr] #[i64 s, .slice A2 n2 c2, .slice A3 n3 c3]
  have B0 := Lib.hid hB0
  obtain ⟨w1, hw1⟩ : ∃ w1, w0.alloc (.cells #[i64 sy, i64 st, .slice A n cp, i64 sl, .slice Al nl cl, i64 sr, .slice Ar nr cr] 112) = w1 := ⟨_, rfl⟩
  have ex : Below w0.heap.size w0 w1 := by rw [← hw1]; exact below_size.alloc (Nat.le_refl _) _
  have X1 := Lib.hid (show Blk w1 w0.heap.size 112 #[i64 sy, i64 st, .slice A n cp, i64 sl, .slice Al nl cl, i64 sr, .slice Ar nr cr] by rw [← hw1]; exact Blk.new w0 _ _)
  have B1 := Lib.hid (below_chain hB0 hB0.size ex)
  have M1 := Lib.hid (b0.keep ex); have C1 := Lib.hid (b3.keep ex)
  have HM := Lib.hid (show Rd3 w1 A n rs from Rd.below h.head B1.out); have HL := Lib.hid (h'.below B1.out); have HRr := Lib.hid (h''.below B1.out); have H2 := Lib.hid (show RdI w1 A2 n2 xs from Rd.below h'''.left.head B1.out); have H3 := Lib.hid (show RdI w1 A3 n3 ys from Rd.below h'''.right.head B1.out)
  have HL2 := Lib.hid (show xs.length = n2 from RdI.len (show RdI w A2 n2 xs from h'''.left.head)); have HL3 := Lib.hid (show ys.length = n3 from RdI.len (show RdI w A3 n3 ys from h'''.right.head))
  obtain ⟨u, hu⟩ : ∃ u, readyB sy st rs sl xl sr xr = u := ⟨_, rfl⟩
  obtain ⟨v, hv⟩ : ∃ v, confB sy st s xs ys = v := ⟨_, rfl⟩
  obtain ⟨R, hR⟩ : ∃ R, accR sy st rs sl xl sr xr s xs ys = R := ⟨_, rfl⟩
  rw [hR]
  have HR := Lib.hid (show R = if u && v then accO (clR rs sy xl xr) (absN sy xl xr s xs ys) else (false, 1) by rw [← hR, accR, hu, hv])
  have HU := Lib.hid hu; have HV := Lib.hid hv
  have p0 := b0.cell 0; have p1 := b0.cell 1; have p2 := b0.cell 2; have q0 := b1.cell 0; have q1 := b1.cell 1; have r0 := b2.cell 0; have r1 := b2.cell 1
  simp at p0 p1 p2 q0 q1 r0 r1
  have x0 := X1.out.cell 0; have x1 := X1.out.cell 1; have x2 := X1.out.cell 2; have x3 := X1.out.cell 3; have x4 := X1.out.cell 4; have x5 := X1.out.cell 5; have x6 := X1.out.cell 6
  simp at x0 x1 x2 x3 x4 x5 x6
  have hz1 : w.heap.size + 1 + 1 + 1 + 1 = w0.heap.size := hz0.symm
  clear h h' h'' h''' b0 b1 b2 b3 hB0 hR hv ex hz0
  have HZ := Lib.hid hz1; clear hz1
  go_enter Try.func46, Try.ntmps46
  go_wp2_with fail
  refine (autValid_c sy st A n cp rs sl Al nl cl xl sr Ar nr cr xr u _ (by exact HM.out) (by exact HL.out) (by exact HRr.out) hn hn' hn'' hu).mono ?_
  rintro e w2 ⟨rfl, hb⟩
  have X2 := Lib.hid (X1.out.keep hb); have M2 := Lib.hid (M1.out.keep hb); have C2 := Lib.hid (C1.out.keep hb)
  have B2 := Lib.hid (below_chain B1.out B1.out.size hb)
  have HM' := Lib.hid (show Rd3 w2 A n rs from Rd.below HM.out hb)
  have HL' := Lib.hid (HL.out.below hb); have HRr' := Lib.hid (HRr.out.below hb); have H2' := Lib.hid (H2.out.below hb); have H3' := Lib.hid (H3.out.below hb)
  clear hb hu hw0 hw1 p0 p1 p2 q0 q1 r0 r1 x0 x1 x2 x3 x4 x5 x6
  have p0 := M2.out.cell 0; have p1 := M2.out.cell 1; have p2 := M2.out.cell 2; have q0 := C2.out.cell 0; have q1 := C2.out.cell 1; have q2 := C2.out.cell 2
  simp at p0 p1 p2 q0 q1 q2
  cases u
  · go_wp2_with fail
    go_ret2
    rw [HR.out]
    exact ⟨rfl, B2.out⟩
  obtain ⟨hm, hdl, hdr⟩ := readyB_parts HU.out
  have hbd := machB_bd hm
  have HMM := Lib.hid hm; have HDL := Lib.hid hdl; have HDR := Lib.hid hdr
  clear hdl hdr hm
  go_wp2_with fail
  refine (configOf_c sy st A n cp s A2 n2 c2 xs A3 n3 c3 ys v _ (by exact H2'.out) (by exact H3'.out) hn2 hn3 hbd.1 hbd.2.1 HV.out).mono ?_
  rintro e w3 ⟨rfl, hb⟩
  have X3 := Lib.hid (X2.out.keep hb); have C3 := Lib.hid (C2.out.keep hb)
  have B3 := Lib.hid (below_chain B2.out B2.out.size hb)
  have HM3 := Lib.hid (show Rd3 w3 A n rs from Rd.below HM'.out hb)
  have HL3' := Lib.hid (HL'.out.below hb); have HR3' := Lib.hid (HRr'.out.below hb); have H23 := Lib.hid (H2'.out.below hb); have H33 := Lib.hid (H3'.out.below hb)
  clear hb hbd p0 p1 p2 q0 q1 q2
  have x0 := X3.out.cell 0; have x1 := X3.out.cell 1; have x2 := X3.out.cell 2; have x3 := X3.out.cell 3; have x4 := X3.out.cell 4; have x5 := X3.out.cell 5; have x6 := X3.out.cell 6
  simp at x0 x1 x2 x3 x4 x5 x6
  cases v
  · go_wp2_with fail
    go_ret2
    rw [HR.out]
    exact ⟨rfl, B3.out⟩
  obtain ⟨hx, hy, hlx, hly⟩ := confB_parts HV.out
  have HX := Lib.hid hx; have HY := Lib.hid hy
  have hq2 : n2 ≤ 200 := by have := HL2.out; omega
  have hq3 : n3 ≤ 200 := by have := HL3.out; omega
  have HC := Lib.hid (closure_c sy st A n cp rs sl Al nl cl xl sr Ar nr cr xr w3 HM3.out HL3'.out HR3'.out HMM.out HDL.out HDR.out)
  obtain ⟨o, ho⟩ : ∃ o, clR rs sy xl xr = o := ⟨_, rfl⟩
  have HO3 := Lib.hid (show ∀ l, o = some l → l.length ≤ 3000 from fun l h => clGo_len (rs := rs) (sy := sy) (xl := xl) (xr := xr) 3001 0 [(0, 0, 0, 0)] l (by simp) (by rw [← h, ← ho]; rfl))
  rw [ho] at HC HR
  clear hx hy hlx hly ho
  go_wp2_with fail
  refine HC.out.mono ?_
  rintro e w4 ⟨A5, n5, c5, l, rfl, hl, hn5, hr5, hb⟩
  have X4 := Lib.hid (X3.out.keep hb); have C4 := Lib.hid (C3.out.keep hb)
  have B4 := Lib.hid (below_chain B3.out B3.out.size hb)
  have HL4 := Lib.hid (HL3'.out.below hb); have HR4 := Lib.hid (HR3'.out.below hb); have H24 := Lib.hid (H23.out.below hb); have H34 := Lib.hid (H33.out.below hb)
  have I4 := Lib.hid hr5; have HLL := Lib.hid hl; have HN5 := Lib.hid hn5
  clear hb hl hr5 hn5 HC x0 x1 x2 x3 x4 x5 x6
  have q0 := C4.out.cell 0; have q1 := C4.out.cell 1; have q2 := C4.out.cell 2
  have x0 := X4.out.cell 0; have x1 := X4.out.cell 1; have x2 := X4.out.cell 2; have x3 := X4.out.cell 3; have x4 := X4.out.cell 4; have x5 := X4.out.cell 5; have x6 := X4.out.cell 6
  simp at q0 q1 q2 x0 x1 x2 x3 x4 x5 x6
  cases o with
  | none =>
    go_wp2_with fail
    go_ret2
    rw [HR.out]
    exact ⟨rfl, B4.out⟩
  | some l0 =>
    have HE0 := Lib.hid (show l = l0 from HLL.out)
    have hl3 : n5 ≤ 3000 := by have h1 := HO3.out l0 rfl; have h2 := HN5.out; rw [HE0.out] at h2; omega
    go_wp2_with fail
    refine (autOf_c sy st A n cp sl Al nl cl xl sr Ar nr cr xr s A2 n2 c2 xs A3 n3 c3 ys _ (by exact HL4.out) (by exact HR4.out) (by exact H24.out) (by exact H34.out) HDL.out HDR.out HX.out HY.out (by omega) (by omega) hnc).mono ?_
    rintro e w5 ⟨rfl, hb⟩
    have B5 := Lib.hid (below_chain B4.out B4.out.size hb)
    have HCC := Lib.hid (containsO_c A5 n5 c5 l (absN sy xl xr s xs ys) w5 (Rd.below I4.out hb) HN5.out.symm (by omega))
    have HRE := Lib.hid (show R = (decide (absN sy xl xr s xs ys ∈ l), 0) by rw [HR.out, HE0.out]; rfl)
    unfold absN key4 at HCC
    unfold absN at HRE
    simp only at HCC
    generalize runF sy xl xs.reverse 0 = k1 at *
    generalize ys.getD 0 0 = k2 at *
    generalize runF sy xr ys.tail.reverse 0 = k3 at *
    clear hb q0 q1 q2 x0 x1 x2 x3 x4 x5 x6
    go_wp2_with fail
    refine HCC.out.mono ?_
    rintro e w6 ⟨rfl, hb⟩
    have B6 := Lib.hid (below_chain B5.out B5.out.size hb)
    clear hb
    go_wp2_with fail
    go_ret2
    rw [HRE.out]
    exact ⟨rfl, B6.out⟩
end Go.Proofs.Ytfahdgmlhinabaa
