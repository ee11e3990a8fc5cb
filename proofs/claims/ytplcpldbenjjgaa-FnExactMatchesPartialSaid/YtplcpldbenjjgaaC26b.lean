/-
  Contracts of chapter 26: MatchesPartial.
-/
import Derived.Test.YtplcpldbenjjgaaC26
import Derived.Test.YtplcpldbenjjgaaC05c
namespace Go.Proofs.Ytplcpldbenjjgaa
open Go.RowKit

/-- the symbol at a distance from the head -/
def cellD (xs ys : List Int) (d : Int) : Int := if d < 0 then xs.getD (-1 - d).toNat 0 else ys.getD d.toNat 0
def mfrom (xs ys : List Int) (a : Int) : Nat → List Int → Bool
  | _, [] => true
  | k, x :: l => (cellD xs ys ((k : Int) - a) == x) && mfrom xs ys a (k + 1) l
def mpB (sy st : Int) (rs : List Rule3) (s a : Int) (cs : List Int) (t : Int) (xs ys : List Int) : Bool := vpartB sy st rs s a cs && confB sy st t xs ys && (t == s) && mfrom xs ys a 0 cs

theorem symbolAt_c (A : Option Addr) (n cp k : Nat) (xs : List Int) (w : World) (h : RdI w A n xs) (hn : n ≤ 1000000000) (hk : k ≤ 1000000000) :
    Calls Try.prog 119 #[.slice A n cp, .int .i64 k] w fun e w' => e = .returned (.int .i64 (xs.getD k 0)) ∧ w = w' := by
  have HL := Lib.hid h.len
  by_cases hlt : k < n
  · obtain ⟨ad, x, rfl, hab, hx, hc⟩ := h.at_ hlt
    have HF := Lib.hid (getD_at hx)
    clear hx h
    go_enter Try.func119, Try.ntmps119
    go_wp2_with fail
    go_ret
    exact ⟨by rw [HF.out]; rfl, rfl⟩
  · have HF := Lib.hid (show xs.getD k 0 = 0 by rw [List.getD_eq_getElem?_getD, List.getElem?_eq_none (by rw [HL.out]; omega)]; rfl)
    clear h
    go_enter Try.func119, Try.ntmps119
    go_wp2_with fail
    go_ret
    exact ⟨by rw [HF.out]; rfl, rfl⟩
set_option maxHeartbeats 1000000 in
theorem l26Cell_c (g : Nat) (s : Int) (A : Option Addr) (n cp : Nat) (xs : List Int) (A' : Option Addr) (n' cp' : Nat) (ys : List Int) (d : Int) (w : World) (h : ConfP w g s A n cp xs A' n' cp' ys) (hn : n ≤ 1000000000) (hn' : n' ≤ 1000000000) (hd : -1000000 ≤ d ∧ d ≤ 1000000) :
    Calls Try.prog 117 #[.pointer (some ⟨g, 0, none⟩), .int .i64 d] w fun e w' => e = .returned (.int .i64 (cellD xs ys d)) ∧ w = w' := by
  have HL := Lib.hid h.rd.len; have HL' := Lib.hid h.rd'.len
  have c1 := h.c1; have c2 := h.c2
  obtain ⟨hd0, hd1⟩ := hd
  by_cases hneg : d < 0
  · have HC := Lib.hid (show cellD xs ys d = xs.getD (-1 - d).toNat 0 by rw [cellD, if_pos hneg])
    obtain ⟨k, hk⟩ := Int.eq_ofNat_of_zero_le (show 0 ≤ -1 - d by omega)
    have HK := Lib.hid (show (-1 - d).toNat = k by omega)
    have hdk : d = -1 - (k : Int) := by omega
    subst hdk
    have e1 : -1 - (-1 - (k : Int)) = (k : Int) := by omega
    clear hk
    by_cases hlt : k < n
    · obtain ⟨ad, x, rfl, hab, hx, hc⟩ := h.rd.at_ hlt
      have HF := Lib.hid (show cellD xs ys (-1 - (k : Int)) = x by rw [HC.out, HK.out, getD_at hx])
      clear hx h
      go_enter Try.func117, Try.ntmps117
      go_wp2_with fail
      go_ret
      exact ⟨by rw [HF.out]; rfl, rfl⟩
    · have HF := Lib.hid (show cellD xs ys (-1 - (k : Int)) = 0 by rw [HC.out, HK.out, List.getD_eq_getElem?_getD, List.getElem?_eq_none (by rw [HL.out]; omega)]; rfl)
      clear h
      go_enter Try.func117, Try.ntmps117
      go_wp2_with fail
      go_ret
      exact ⟨by rw [HF.out]; rfl, rfl⟩
  · have HC := Lib.hid (show cellD xs ys d = ys.getD d.toNat 0 by rw [cellD, if_neg hneg])
    obtain ⟨k, hk⟩ := Int.eq_ofNat_of_zero_le (show 0 ≤ d by omega)
    subst hk
    by_cases hlt : k < n'
    · obtain ⟨ad, x, rfl, hab, hx, hc⟩ := h.rd'.at_ hlt
      have HF := Lib.hid (show cellD xs ys (k : Int) = x by rw [HC.out, Int.toNat_natCast, getD_at hx])
      clear hx h
      go_enter Try.func117, Try.ntmps117
      go_wp2_with fail
      go_ret
      exact ⟨by rw [HF.out]; rfl, rfl⟩
    · have HF := Lib.hid (show cellD xs ys (k : Int) = 0 by rw [HC.out, Int.toNat_natCast, List.getD_eq_getElem?_getD, List.getElem?_eq_none (by rw [HL'.out]; omega)]; rfl)
      clear h
      go_enter Try.func117, Try.ntmps117
      go_wp2_with fail
      go_ret
      exact ⟨by rw [HF.out]; rfl, rfl⟩
theorem mfrom_bd {sy st s a : Int} {cs : List Int} (h : partB sy st s a cs = true) : 0 ≤ a ∧ a ≤ 59 ∧ cs.length ≤ 60 := by
  simp only [partB, Bool.and_eq_true] at h
  have h1 := inB_t h.1.1.2; have h2 := inB_t h.1.2
  omega
set_option maxHeartbeats 2000000 in
set_option maxRecDepth 100000 in
theorem sMatchesPartial_c (sy st : Int) (A0 : Option Addr) (n0 c0 : Nat) (rs : List Rule3) (s a : Int) (A1 : Option Addr) (n1 c1 : Nat) (cs : List Int) (t : Int) (A2 : Option Addr) (n2 c2 : Nat) (xs : List Int) (A3 : Option Addr) (n3 c3 : Nat) (ys : List Int) (w : World)
    (h : RdS w [sgX enc3 3 A0 n0 rs]) (h' : RdS w [sgI A1 n1 cs]) (h'' : RdS w ([sgI A2 n2 xs] ++ [sgI A3 n3 ys])) (hn : n0 ≤ 1000000000) (hn' : n1 ≤ 1000000000) (hn'' : n2 ≤ 1000000000 ∧ n3 ≤ 1000000000) :
    Calls Try.prog 65 #[.agg #[.int .i64 sy, .int .i64 st, .slice A0 n0 c0], .agg #[.int .i64 s, .int .i64 a, .slice A1 n1 c1], .agg #[.int .i64 t, .slice A2 n2 c2, .slice A3 n3 c3]] w fun e w' => e = .returned (.bool (mpB sy st rs s a cs t xs ys)) ∧ Below w.heap.size w w' := by
  have H := Lib.hid h.head; have H1 := Lib.hid h'.head; have H2 := Lib.hid h''.left.head; have H3 := Lib.hid h''.right.head
  have HL := Lib.hid (show cs.length = n1 from RdI.len h'.head)
  clear h h' h''
  have B0 := Lib.hid (show Below w.heap.size w (((w.alloc (.cells #[.int .i64 sy, .int .i64 st, .slice A0 n0 c0] 66)).alloc (.cells #[.int .i64 s, .int .i64 a, .slice A1 n1 c1] 68)).alloc (.cells #[.int .i64 t, .slice A2 n2 c2, .slice A3 n3 c3] 90)) from ((below_size.alloc (Nat.le_refl _) _).alloc (by simp) _).alloc (by simp; omega) _)
  have BX := Lib.hid (boxes3 w #[.int .i64 sy, .int .i64 st, .slice A0 n0 c0] #[.int .i64 s, .int .i64 a, .slice A1 n1 c1] #[.int .i64 t, .slice A2 n2 c2, .slice A3 n3 c3] 66 68 90)
  cases hm : machB sy st rs
  · have HF := Lib.hid (show mpB sy st rs s a cs t xs ys = false by simp [mpB, vpartB, hm])
    go_enter Try.func65, Try.ntmps65
    go_wp2_with fail
    refine (l05Is_c w.heap.size sy st A0 n0 c0 rs false _ ⟨by exact BX.out.1.cell 0, by exact BX.out.1.cell 1, by exact BX.out.1.cell 2, by exact Rd.below H.out B0.out⟩ hn hm).mono ?_
    rintro e w1 ⟨rfl, hb⟩
    have T := Lib.hid (below_chain B0.out B0.out.size hb); clear hb
    go_wp2_with fail
    go_ret
    exact ⟨by rw [HF.out]; rfl, T.out⟩
  obtain ⟨hsy, hst, _⟩ := machB_bd hm
  cases hp : partB sy st s a cs
  · have HF := Lib.hid (show mpB sy st rs s a cs t xs ys = false by simp [mpB, vpartB, hp])
    go_enter Try.func65, Try.ntmps65
    go_wp2_with fail
    refine (l05Is_c w.heap.size sy st A0 n0 c0 rs true _ ⟨by exact BX.out.1.cell 0, by exact BX.out.1.cell 1, by exact BX.out.1.cell 2, by exact Rd.below H.out B0.out⟩ hn hm).mono ?_
    rintro e w1 ⟨rfl, hb⟩
    have M := Lib.hid (show MachP w1 w.heap.size sy st A0 n0 c0 rs from ⟨keepc hb (BX.out.1.cell 0), keepc hb (BX.out.1.cell 1), keepc hb (BX.out.1.cell 2), Rd.below (Rd.below H.out B0.out) hb⟩)
    have P := Lib.hid (show PartP w1 (w.heap.size + 1) s a A1 n1 c1 cs from ⟨keepc hb (BX.out.2.1.cell 0), keepc hb (BX.out.2.1.cell 1), keepc hb (BX.out.2.1.cell 2), Rd.below (Rd.below H1.out B0.out) hb⟩)
    have C := Lib.hid (show ConfP w1 (w.heap.size + 1 + 1) t A2 n2 c2 xs A3 n3 c3 ys from ⟨keepc hb (BX.out.2.2.cell 0), keepc hb (BX.out.2.2.cell 1), keepc hb (BX.out.2.2.cell 2), Rd.below (Rd.below H2.out B0.out) hb, Rd.below (Rd.below H3.out B0.out) hb⟩)
    have T := Lib.hid (below_chain B0.out B0.out.size hb); clear hb
    go_wp2_with fail
    refine (l26Good_c _ sy st A0 n0 c0 rs _ s a A1 n1 c1 cs false _ M.out P.out hsy hst hn' hp).mono ?_
    rintro e w2 ⟨rfl, hq⟩
    have T2 := Lib.hid (below_chain T.out T.out.size (hq.below _)); clear hq
    go_wp2_with fail
    go_ret
    exact ⟨by rw [HF.out]; rfl, T2.out⟩
  obtain ⟨ha0, ha1, hc60⟩ := mfrom_bd hp
  have hn60 : n1 ≤ 60 := by rw [← HL.out]; exact hc60
  clear hc60
  cases hc : confB sy st t xs ys
  · have HF := Lib.hid (show mpB sy st rs s a cs t xs ys = false by simp [mpB, hc])
    go_enter Try.func65, Try.ntmps65
    go_wp2_with fail
    refine (l05Is_c w.heap.size sy st A0 n0 c0 rs true _ ⟨by exact BX.out.1.cell 0, by exact BX.out.1.cell 1, by exact BX.out.1.cell 2, by exact Rd.below H.out B0.out⟩ hn hm).mono ?_
    rintro e w1 ⟨rfl, hb⟩
    have M := Lib.hid (show MachP w1 w.heap.size sy st A0 n0 c0 rs from ⟨keepc hb (BX.out.1.cell 0), keepc hb (BX.out.1.cell 1), keepc hb (BX.out.1.cell 2), Rd.below (Rd.below H.out B0.out) hb⟩)
    have P := Lib.hid (show PartP w1 (w.heap.size + 1) s a A1 n1 c1 cs from ⟨keepc hb (BX.out.2.1.cell 0), keepc hb (BX.out.2.1.cell 1), keepc hb (BX.out.2.1.cell 2), Rd.below (Rd.below H1.out B0.out) hb⟩)
    have C := Lib.hid (show ConfP w1 (w.heap.size + 1 + 1) t A2 n2 c2 xs A3 n3 c3 ys from ⟨keepc hb (BX.out.2.2.cell 0), keepc hb (BX.out.2.2.cell 1), keepc hb (BX.out.2.2.cell 2), Rd.below (Rd.below H2.out B0.out) hb, Rd.below (Rd.below H3.out B0.out) hb⟩)
    have T := Lib.hid (below_chain B0.out B0.out.size hb); clear hb
    go_wp2_with fail
    refine (l26Good_c _ sy st A0 n0 c0 rs _ s a A1 n1 c1 cs true _ M.out P.out hsy hst hn' hp).mono ?_
    rintro e w2 ⟨rfl, hq⟩
    have M2 := Lib.hid (M.out.below (hq.below _)); have C2 := Lib.hid (C.out.below (hq.below _))
    have T2 := Lib.hid (below_chain T.out T.out.size (hq.below _)); clear hq
    go_wp2_with fail
    refine (l05Good_c _ sy st A0 n0 c0 rs _ t A2 n2 c2 xs A3 n3 c3 ys false _ M2.out C2.out hsy hst hn''.1 hn''.2 hc).mono ?_
    rintro e w3 ⟨rfl, hq⟩
    have T3 := Lib.hid (below_chain T2.out T2.out.size (hq.below _)); clear hq
    go_wp2_with fail
    go_ret
    exact ⟨by rw [HF.out]; rfl, T3.out⟩
  have HMP := Lib.hid (show mpB sy st rs s a cs t xs ys = ((t == s) && mfrom xs ys a 0 cs) by simp [mpB, vpartB, hm, hp, hc])
  by_cases hts : t = s
  · have hts' : (t != s) = false := by simpa using hts
    have HF := Lib.hid (show mpB sy st rs s a cs t xs ys = mfrom xs ys a 0 cs by rw [HMP.out]; simp [hts])
    clear hts HMP
    go_enter Try.func65, Try.ntmps65
    go_wp2_with fail
    refine (l05Is_c w.heap.size sy st A0 n0 c0 rs true _ ⟨by exact BX.out.1.cell 0, by exact BX.out.1.cell 1, by exact BX.out.1.cell 2, by exact Rd.below H.out B0.out⟩ hn hm).mono ?_
    rintro e w1 ⟨rfl, hb⟩
    have M := Lib.hid (show MachP w1 w.heap.size sy st A0 n0 c0 rs from ⟨keepc hb (BX.out.1.cell 0), keepc hb (BX.out.1.cell 1), keepc hb (BX.out.1.cell 2), Rd.below (Rd.below H.out B0.out) hb⟩)
    have P := Lib.hid (show PartP w1 (w.heap.size + 1) s a A1 n1 c1 cs from ⟨keepc hb (BX.out.2.1.cell 0), keepc hb (BX.out.2.1.cell 1), keepc hb (BX.out.2.1.cell 2), Rd.below (Rd.below H1.out B0.out) hb⟩)
    have C := Lib.hid (show ConfP w1 (w.heap.size + 1 + 1) t A2 n2 c2 xs A3 n3 c3 ys from ⟨keepc hb (BX.out.2.2.cell 0), keepc hb (BX.out.2.2.cell 1), keepc hb (BX.out.2.2.cell 2), Rd.below (Rd.below H2.out B0.out) hb, Rd.below (Rd.below H3.out B0.out) hb⟩)
    have T := Lib.hid (below_chain B0.out B0.out.size hb); clear hb
    go_wp2_with fail
    refine (l26Good_c _ sy st A0 n0 c0 rs _ s a A1 n1 c1 cs true _ M.out P.out hsy hst hn' hp).mono ?_
    rintro e w2 ⟨rfl, hq⟩
    have M2 := Lib.hid (M.out.below (hq.below _)); have C2 := Lib.hid (C.out.below (hq.below _)); have P2 := Lib.hid (P.out.below (hq.below _))
    have T2 := Lib.hid (below_chain T.out T.out.size (hq.below _)); clear hq
    go_wp2_with fail
    refine (l05Good_c _ sy st A0 n0 c0 rs _ t A2 n2 c2 xs A3 n3 c3 ys true _ M2.out C2.out hsy hst hn''.1 hn''.2 hc).mono ?_
    rintro e w3 ⟨rfl, hq⟩
    have C3 := Lib.hid (C2.out.below (hq.below _)); have P3 := Lib.hid (P2.out.below (hq.below _))
    have T3 := Lib.hid (below_chain T2.out T2.out.size (hq.below _)); clear hq
    have d0 := C3.out.c0; have e0 := P3.out.c0; have e1 := P3.out.c1; have e2 := P3.out.c2
    clear M M2 C2 P2 T T2 C P hm hp hc
    go_wp2_with fail
    go_loopw [7] (fun iv wr => ∃ k : Nat, k ≤ n1 ∧ iv = .int .i64 k ∧ Hid (mfrom xs ys a 0 cs = mfrom xs ys a k (cs.drop k)) ∧ Qt w3 wr) (fun iv _ => n1 - (intOf iv).toNat)
    case atStart => exact ⟨0, by omega, rfl, rfl, (by first | exact Qt.refl _ | exact ⟨_, rfl⟩ | exact Qt.drewN ⟨_, rfl⟩ _)⟩
    case round =>
      obtain ⟨k, hk, rfl, hr, hq⟩ := hrel
      obtain ⟨m, rfl⟩ := hq
      by_cases hlt : k < n1
      · obtain ⟨ad, y, rfl, hab, hy, hcy⟩ := P3.out.rd.at_ hlt
        have HS := Lib.hid (show mfrom xs ys a 0 cs = ((cellD xs ys ((k : Int) - a) == y) && mfrom xs ys a (k + 1) (cs.drop (k + 1))) by rw [hr.out, drop_at hy, mfrom])
        clear hy hr
        obtain ⟨z, hz⟩ : ∃ z, cellD xs ys ((k : Int) - a) = z := ⟨_, rfl⟩
        rw [hz] at HS
        have v1 : IntKind.i64.wrap ((k : Int) - a) = (k : Int) - a := IntWalk.i64_in _ (by omega)
        have HC : ∀ j, Calls Try.prog 117 #[.pointer (some ⟨w.heap.size + 1 + 1, 0, none⟩), .int .i64 ((k : Int) - a)] (w3.drewN j) fun e w' => e = .returned (.int .i64 z) ∧ w3.drewN j = w' := by
          intro j; rw [← hz]; exact l26Cell_c _ t A2 n2 c2 xs A3 n3 c3 ys _ _ (C3.out.drewN j) hn''.1 hn''.2 (by omega)
        by_cases hzy : z = y
        · have hzy' : (z != y) = false := by simpa using hzy
          have HE := Lib.hid (show mfrom xs ys a 0 cs = mfrom xs ys a (k + 1) (cs.drop (k + 1)) by rw [HS.out]; simp [hzy])
          clear hzy HS hz
          go_wp2_with fail
          go_quiet ((go_at_call 117; first | exact quiet_left (HC _) | exact quiet_add_left (HC _)))
          clear HC
          go_wp2_with fail
          go_roundw
          case rel => exact ⟨k + 1, by omega, by go_num, HE.out, (by first | exact Qt.refl _ | exact ⟨_, rfl⟩ | exact Qt.drewN ⟨_, rfl⟩ _)⟩
          case measure => simp [intOf]; omega
        · have hzy' : (z != y) = true := by simpa using hzy
          have HE := Lib.hid (show mfrom xs ys a 0 cs = false by rw [HS.out]; simp [hzy])
          clear hzy HS hz
          go_wp2_with fail
          go_quiet ((go_at_call 117; first | exact quiet_left (HC _) | exact quiet_add_left (HC _)))
          clear HC
          go_wp2_with fail
          go_ret
          exact ⟨by rw [HF.out, HE.out]; rfl, T3.out.trans ((show Qt w3 _ from (by first | exact Qt.refl _ | exact ⟨_, rfl⟩ | exact Qt.drewN ⟨_, rfl⟩ _)).below _)⟩
      · have HE := Lib.hid (show mfrom xs ys a 0 cs = true by rw [hr.out, List.drop_eq_nil_of_le (by rw [HL.out]; omega)]; rfl)
        clear hr
        go_wp2_with fail
        go_ret
        exact ⟨by rw [HF.out, HE.out]; rfl, T3.out.trans ((show Qt w3 _ from (by first | exact Qt.refl _ | exact ⟨_, rfl⟩ | exact Qt.drewN ⟨_, rfl⟩ _)).below _)⟩
  · have hts' : (t != s) = true := by simpa using hts
    have HF := Lib.hid (show mpB sy st rs s a cs t xs ys = false by rw [HMP.out]; simp [hts])
    clear hts HMP
    go_enter Try.func65, Try.ntmps65
    go_wp2_with fail
    refine (l05Is_c w.heap.size sy st A0 n0 c0 rs true _ ⟨by exact BX.out.1.cell 0, by exact BX.out.1.cell 1, by exact BX.out.1.cell 2, by exact Rd.below H.out B0.out⟩ hn hm).mono ?_
    rintro e w1 ⟨rfl, hb⟩
    have M := Lib.hid (show MachP w1 w.heap.size sy st A0 n0 c0 rs from ⟨keepc hb (BX.out.1.cell 0), keepc hb (BX.out.1.cell 1), keepc hb (BX.out.1.cell 2), Rd.below (Rd.below H.out B0.out) hb⟩)
    have P := Lib.hid (show PartP w1 (w.heap.size + 1) s a A1 n1 c1 cs from ⟨keepc hb (BX.out.2.1.cell 0), keepc hb (BX.out.2.1.cell 1), keepc hb (BX.out.2.1.cell 2), Rd.below (Rd.below H1.out B0.out) hb⟩)
    have C := Lib.hid (show ConfP w1 (w.heap.size + 1 + 1) t A2 n2 c2 xs A3 n3 c3 ys from ⟨keepc hb (BX.out.2.2.cell 0), keepc hb (BX.out.2.2.cell 1), keepc hb (BX.out.2.2.cell 2), Rd.below (Rd.below H2.out B0.out) hb, Rd.below (Rd.below H3.out B0.out) hb⟩)
    have T := Lib.hid (below_chain B0.out B0.out.size hb); clear hb
    go_wp2_with fail
    refine (l26Good_c _ sy st A0 n0 c0 rs _ s a A1 n1 c1 cs true _ M.out P.out hsy hst hn' hp).mono ?_
    rintro e w2 ⟨rfl, hq⟩
    have M2 := Lib.hid (M.out.below (hq.below _)); have C2 := Lib.hid (C.out.below (hq.below _)); have P2 := Lib.hid (P.out.below (hq.below _))
    have T2 := Lib.hid (below_chain T.out T.out.size (hq.below _)); clear hq
    go_wp2_with fail
    refine (l05Good_c _ sy st A0 n0 c0 rs _ t A2 n2 c2 xs A3 n3 c3 ys true _ M2.out C2.out hsy hst hn''.1 hn''.2 hc).mono ?_
    rintro e w3 ⟨rfl, hq⟩
    have C3 := Lib.hid (C2.out.below (hq.below _)); have P3 := Lib.hid (P2.out.below (hq.below _))
    have T3 := Lib.hid (below_chain T2.out T2.out.size (hq.below _)); clear hq
    have d0 := C3.out.c0; have e0 := P3.out.c0
    go_wp2_with fail
    go_ret
    exact ⟨by rw [HF.out]; rfl, T3.out⟩
set_option maxHeartbeats 2000000 in
set_option maxRecDepth 100000 in
theorem iMatchesPartial_c (sy st : Int) (A0 : Option Addr) (n0 c0 : Nat) (rs : List Rule3) (s a : Int) (A1 : Option Addr) (n1 c1 : Nat) (cs : List Int) (t : Int) (A2 : Option Addr) (n2 c2 : Nat) (xs : List Int) (A3 : Option Addr) (n3 c3 : Nat) (ys : List Int) (w : World)
    (h : RdS w [sgX enc3 3 A0 n0 rs]) (h' : RdS w [sgI A1 n1 cs]) (h'' : RdS w ([sgI A2 n2 xs] ++ [sgI A3 n3 ys])) (hn : n0 ≤ 1000000000) (hn' : n1 ≤ 1000000000) (hn'' : n2 ≤ 1000000000 ∧ n3 ≤ 1000000000) :
    Calls Try.prog 67 #[.agg #[.int .i64 sy, .int .i64 st, .slice A0 n0 c0], .agg #[.int .i64 s, .int .i64 a, .slice A1 n1 c1], .agg #[.int .i64 t, .slice A2 n2 c2, .slice A3 n3 c3]] w fun e w' => e = .returned (.bool (mpB sy st rs s a cs t xs ys)) ∧ Below w.heap.size w w' := by
  have H := Lib.hid h.head; have H1 := Lib.hid h'.head; have H2 := Lib.hid h''.left.head; have H3 := Lib.hid h''.right.head
  have HL := Lib.hid (show cs.length = n1 from RdI.len h'.head)
  clear h h' h''
  have B0 := Lib.hid (show Below w.heap.size w (((w.alloc (.cells #[.int .i64 sy, .int .i64 st, .slice A0 n0 c0] 66)).alloc (.cells #[.int .i64 s, .int .i64 a, .slice A1 n1 c1] 68)).alloc (.cells #[.int .i64 t, .slice A2 n2 c2, .slice A3 n3 c3] 90)) from ((below_size.alloc (Nat.le_refl _) _).alloc (by simp) _).alloc (by simp; omega) _)
  have BX := Lib.hid (boxes3 w #[.int .i64 sy, .int .i64 st, .slice A0 n0 c0] #[.int .i64 s, .int .i64 a, .slice A1 n1 c1] #[.int .i64 t, .slice A2 n2 c2, .slice A3 n3 c3] 66 68 90)
  cases hv : vpartB sy st rs s a cs
  · have HF := Lib.hid (show mpB sy st rs s a cs t xs ys = false by simp [mpB, hv])
    go_enter Try.func67, Try.ntmps67
    go_wp2_with fail
    refine (iValidPartial_c sy st A0 n0 c0 rs s a A1 n1 c1 cs _ (RdS.one (Rd.below H.out B0.out)) (RdS.one (Rd.below H1.out B0.out)) hn hn').mono ?_
    rintro e w1 ⟨rfl, hb⟩
    rw [hv]
    have T := Lib.hid (below_chain B0.out B0.out.size hb)
    have b0 := BX.out.1.keep hb; have b1 := BX.out.2.1.keep hb; have b2 := BX.out.2.2.keep hb
    have m0 := b0.cell 0; have m1 := b0.cell 1; have m2 := b0.cell 2
    have p0 := b1.cell 0; have p1 := b1.cell 1; have p2 := b1.cell 2
    have q0 := b2.cell 0; have q1 := b2.cell 1; have q2 := b2.cell 2
    simp at m0 m1 m2 p0 p1 p2 q0 q1 q2
    have B1 := Lib.hid b1; have B2 := Lib.hid b2
    clear hb b0 b1 b2
    go_wp2_with fail
    go_ret
    exact ⟨by rw [HF.out]; rfl, T.out⟩
  have hvv := hv
  simp only [vpartB, Bool.and_eq_true] at hvv
  obtain ⟨hsy, hst, _⟩ := machB_bd hvv.1
  obtain ⟨ha0, ha1, hc60⟩ := mfrom_bd hvv.2
  have hn60 : n1 ≤ 60 := by rw [← HL.out]; exact hc60
  clear hc60 hvv
  cases hc : confB sy st t xs ys
  · have HF := Lib.hid (show mpB sy st rs s a cs t xs ys = false by simp [mpB, hc])
    go_enter Try.func67, Try.ntmps67
    go_wp2_with fail
    refine (iValidPartial_c sy st A0 n0 c0 rs s a A1 n1 c1 cs _ (RdS.one (Rd.below H.out B0.out)) (RdS.one (Rd.below H1.out B0.out)) hn hn').mono ?_
    rintro e w1 ⟨rfl, hb⟩
    rw [hv]
    have T := Lib.hid (below_chain B0.out B0.out.size hb)
    have b0 := BX.out.1.keep hb; have b1 := BX.out.2.1.keep hb; have b2 := BX.out.2.2.keep hb
    have m0 := b0.cell 0; have m1 := b0.cell 1; have m2 := b0.cell 2
    have p0 := b1.cell 0; have p1 := b1.cell 1; have p2 := b1.cell 2
    have q0 := b2.cell 0; have q1 := b2.cell 1; have q2 := b2.cell 2
    simp at m0 m1 m2 p0 p1 p2 q0 q1 q2
    have B1 := Lib.hid b1; have B2 := Lib.hid b2
    clear hb b0 b1 b2
    go_wp2_with fail
    refine (configOf_c sy st A0 n0 c0 t A2 n2 c2 xs A3 n3 c3 ys false _ (RdI.below H2.out T.out) (RdI.below H3.out T.out) hn''.1 hn''.2 hsy hst hc).mono ?_
    rintro e w2 ⟨rfl, hb⟩
    have T2 := Lib.hid (below_chain T.out T.out.size hb); clear hb
    go_wp2_with fail
    go_ret
    exact ⟨by rw [HF.out]; rfl, T2.out⟩
  have HMP := Lib.hid (show mpB sy st rs s a cs t xs ys = ((t == s) && mfrom xs ys a 0 cs) by simp [mpB, hv, hc])
  by_cases hts : t = s
  · have hts' : (t != s) = false := by simpa using hts
    have HF := Lib.hid (show mpB sy st rs s a cs t xs ys = mfrom xs ys a 0 cs by rw [HMP.out]; simp [hts])
    clear hts HMP
    go_enter Try.func67, Try.ntmps67
    go_wp2_with fail
    refine (iValidPartial_c sy st A0 n0 c0 rs s a A1 n1 c1 cs _ (RdS.one (Rd.below H.out B0.out)) (RdS.one (Rd.below H1.out B0.out)) hn hn').mono ?_
    rintro e w1 ⟨rfl, hb⟩
    rw [hv]
    have T := Lib.hid (below_chain B0.out B0.out.size hb)
    have b0 := BX.out.1.keep hb; have b1 := BX.out.2.1.keep hb; have b2 := BX.out.2.2.keep hb
    have m0 := b0.cell 0; have m1 := b0.cell 1; have m2 := b0.cell 2
    have p0 := b1.cell 0; have p1 := b1.cell 1; have p2 := b1.cell 2
    have q0 := b2.cell 0; have q1 := b2.cell 1; have q2 := b2.cell 2
    simp at m0 m1 m2 p0 p1 p2 q0 q1 q2
    have B1 := Lib.hid b1; have B2 := Lib.hid b2
    clear hb b0 b1 b2
    go_wp2_with fail
    refine (configOf_c sy st A0 n0 c0 t A2 n2 c2 xs A3 n3 c3 ys true _ (RdI.below H2.out T.out) (RdI.below H3.out T.out) hn''.1 hn''.2 hsy hst hc).mono ?_
    rintro e w2 ⟨rfl, hb⟩
    have T2 := Lib.hid (below_chain T.out T.out.size hb)
    have b1 := B1.out.keep hb; have b2 := B2.out.keep hb
    have p0 := b1.cell 0; have p1 := b1.cell 1; have p2 := b1.cell 2
    have q0 := b2.cell 0; have q1 := b2.cell 1; have q2 := b2.cell 2
    simp at p0 p1 p2 q0 q1 q2
    have R1 := Lib.hid (show RdI w2 A1 n1 cs from Rd.below H1.out T2.out); have R2 := Lib.hid (show RdI w2 A2 n2 xs from Rd.below H2.out T2.out); have R3 := Lib.hid (show RdI w2 A3 n3 ys from Rd.below H3.out T2.out)
    clear hb b1 b2 T B1 B2 hc hv
    go_wp2_with fail
    go_loopw [30] (fun iv wr => ∃ k : Nat, k ≤ n1 ∧ iv = .int .i64 k ∧ Hid (mfrom xs ys a 0 cs = mfrom xs ys a k (cs.drop k)) ∧ w2 = wr) (fun iv _ => n1 - (intOf iv).toNat)
    case atStart => exact ⟨0, by omega, rfl, rfl, rfl⟩
    case round =>
      obtain ⟨k, hk, rfl, hr, rfl⟩ := hrel
      by_cases hlt : k < n1
      · obtain ⟨ad, y, rfl, hab, hy, hcy⟩ := R1.out.at_ hlt
        have HS := Lib.hid (show mfrom xs ys a 0 cs = ((cellD xs ys ((k : Int) - a) == y) && mfrom xs ys a (k + 1) (cs.drop (k + 1))) by rw [hr.out, drop_at hy, mfrom])
        clear hy hr
        by_cases hsg : 0 ≤ (k : Int) - a
        · obtain ⟨j, hj⟩ := Int.eq_ofNat_of_zero_le hsg
          have HJ := Lib.hid (show cellD xs ys ((k : Int) - a) = ys.getD j 0 by rw [cellD, if_neg (by omega), hj, Int.toNat_natCast])
          have d1 : decide (0 ≤ (k : Int) - a) = true := by simpa using hsg
          have d2 : decide ((k : Int) - a < 0) = false := by simp; omega
          have HC : Calls Try.prog 119 #[.slice A3 n3 c3, .int .i64 ((k : Int) - a)] w2 fun e w' => e = .returned (.int .i64 (cellD xs ys ((k : Int) - a))) ∧ w2 = w' := by
            rw [HJ.out, hj]; exact symbolAt_c A3 n3 c3 j ys _ R3.out hn''.2 (by omega)
          clear hj
          generalize cellD xs ys ((k : Int) - a) = z at *
          by_cases hzy : z = y
          · have hzy' : (z != y) = false := by simpa using hzy
            have HE := Lib.hid (show mfrom xs ys a 0 cs = mfrom xs ys a (k + 1) (cs.drop (k + 1)) by rw [HS.out]; simp [hzy])
            clear hzy HS
            go_wp2_with fail
            refine HC.mono ?_
            rintro e w' ⟨rfl, rfl⟩
            clear HC
            go_wp2_with fail
            go_roundw
            case rel => exact ⟨k + 1, by omega, by go_num, HE.out, by trivial⟩
            case measure => simp [intOf]; omega
          · have hzy' : (z != y) = true := by simpa using hzy
            have HE := Lib.hid (show mfrom xs ys a 0 cs = false by rw [HS.out]; simp [hzy])
            clear hzy HS
            go_wp2_with fail
            refine HC.mono ?_
            rintro e w' ⟨rfl, rfl⟩
            clear HC
            go_wp2_with fail
            go_ret
            exact ⟨by rw [HF.out, HE.out]; rfl, T2.out⟩
        · obtain ⟨j, hj⟩ := Int.eq_ofNat_of_zero_le (show 0 ≤ -1 - ((k : Int) - a) by omega)
          have HJ := Lib.hid (show cellD xs ys ((k : Int) - a) = xs.getD j 0 by rw [cellD, if_pos (by omega), hj, Int.toNat_natCast])
          have d1 : decide (0 ≤ (k : Int) - a) = false := by simpa using hsg
          have d2 : decide ((k : Int) - a < 0) = true := by simp; omega
          have j1 : -((k : Int) - a) - 1 = (j : Int) := by omega
          have HC : Calls Try.prog 119 #[.slice A2 n2 c2, .int .i64 (-((k : Int) - a) - 1)] w2 fun e w' => e = .returned (.int .i64 (cellD xs ys ((k : Int) - a))) ∧ w2 = w' := by
            rw [HJ.out, j1]; exact symbolAt_c A2 n2 c2 j xs _ R2.out hn''.1 (by omega)
          have hjb : -1 - ((k : Int) - a) ≤ 100 := by omega
          clear hj j1
          generalize cellD xs ys ((k : Int) - a) = z at *
          by_cases hzy : z = y
          · have hzy' : (z != y) = false := by simpa using hzy
            have HE := Lib.hid (show mfrom xs ys a 0 cs = mfrom xs ys a (k + 1) (cs.drop (k + 1)) by rw [HS.out]; simp [hzy])
            clear hzy HS
            go_wp2_with fail
            refine HC.mono ?_
            rintro e w' ⟨rfl, rfl⟩
            clear HC
            go_wp2_with fail
            go_roundw
            case rel => exact ⟨k + 1, by omega, by go_num, HE.out, by trivial⟩
            case measure => simp [intOf]; omega
          · have hzy' : (z != y) = true := by simpa using hzy
            have HE := Lib.hid (show mfrom xs ys a 0 cs = false by rw [HS.out]; simp [hzy])
            clear hzy HS
            go_wp2_with fail
            refine HC.mono ?_
            rintro e w' ⟨rfl, rfl⟩
            clear HC
            go_wp2_with fail
            go_ret
            exact ⟨by rw [HF.out, HE.out]; rfl, T2.out⟩
      · have HE := Lib.hid (show mfrom xs ys a 0 cs = true by rw [hr.out, List.drop_eq_nil_of_le (by rw [HL.out]; omega)]; rfl)
        clear hr
        go_wp2_with fail
        go_ret
        exact ⟨by rw [HF.out, HE.out]; rfl, T2.out⟩
  · have hts' : (t != s) = true := by simpa using hts
    have HF := Lib.hid (show mpB sy st rs s a cs t xs ys = false by rw [HMP.out]; simp [hts])
    clear hts HMP
    go_enter Try.func67, Try.ntmps67
    go_wp2_with fail
    refine (iValidPartial_c sy st A0 n0 c0 rs s a A1 n1 c1 cs _ (RdS.one (Rd.below H.out B0.out)) (RdS.one (Rd.below H1.out B0.out)) hn hn').mono ?_
    rintro e w1 ⟨rfl, hb⟩
    rw [hv]
    have T := Lib.hid (below_chain B0.out B0.out.size hb)
    have b0 := BX.out.1.keep hb; have b1 := BX.out.2.1.keep hb; have b2 := BX.out.2.2.keep hb
    have m0 := b0.cell 0; have m1 := b0.cell 1; have m2 := b0.cell 2
    have p0 := b1.cell 0; have p1 := b1.cell 1; have p2 := b1.cell 2
    have q0 := b2.cell 0; have q1 := b2.cell 1; have q2 := b2.cell 2
    simp at m0 m1 m2 p0 p1 p2 q0 q1 q2
    have B1 := Lib.hid b1; have B2 := Lib.hid b2
    clear hb b0 b1 b2
    go_wp2_with fail
    refine (configOf_c sy st A0 n0 c0 t A2 n2 c2 xs A3 n3 c3 ys true _ (RdI.below H2.out T.out) (RdI.below H3.out T.out) hn''.1 hn''.2 hsy hst hc).mono ?_
    rintro e w2 ⟨rfl, hb⟩
    have T2 := Lib.hid (below_chain T.out T.out.size hb)
    have b1 := B1.out.keep hb; have b2 := B2.out.keep hb
    have p0 := b1.cell 0; have q0 := b2.cell 0
    simp at p0 q0
    clear hb b1 b2 T B1 B2 hc hv
    go_wp2_with fail
    go_ret
    exact ⟨by rw [HF.out]; rfl, T2.out⟩
end Go.Proofs.Ytplcpldbenjjgaa
