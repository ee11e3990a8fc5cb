/-
  Contracts of chapter 27 (bouncers): valid formula tapes.
-/
import Derived.Test.YtfbmjlohdhogmaaDoorC27
import Derived.Test.YtfbmjlohdhogmaaDoorC26
import Derived.Test.YtfbmjlohdhogmaaDoorSegII
namespace Go.Proofs.YtfbmjlohdhogmaaDoor
open Go.RowKit

def symB (sy most : Int) (xs : List Int) : Bool := allB 0 (sy - 1) xs && decide ((xs.length : Int) ≤ most)
def repB (sy : Int) (xs : List Int) : Bool := inB xs.length 1 20 && allB 0 (sy - 1) xs
def atB (a hd r len : Int) : Bool := inB a (if 0 < hd then -1 else 0) (if hd = r then len - 1 else len)
/-- the first conditions, on numbers alone -/
def formN (st s hd : Int) (nw nr no : Nat) : Bool := inB s 0 (st - 1) && inB nr 1 3 && decide ((nw : Int) = nr + 1) && decide ((no : Int) = nr) && inB hd 0 nr
def formB (sy st s hd a : Int) (ws rps : List (List Int)) (os : List Int) : Bool :=
  formN st s hd ws.length rps.length os.length && (ws.all (symB sy 100) && ((rps.all (repB sy) && allB (-1000) 1000 os) && atB a hd rps.length (ws.getD hd.toNat []).length))
/-- a formula tape behind a pointer -/
structure FormP (w : World) (g : Nat) (s hd a : Int) (A0 : Option Addr) (n0 c0 : Nat) (its0 : List It) (A1 : Option Addr) (n1 c1 : Nat) (its1 : List It) (A2 : Option Addr) (n2 c2 : Nat) (os : List Int) : Prop where
  d0 : w.cell? ⟨g, 0, none⟩ = some (i64 s)
  d1 : w.cell? ⟨g, 1, none⟩ = some (i64 hd)
  d2 : w.cell? ⟨g, 2, none⟩ = some (i64 a)
  d3 : w.cell? ⟨g, 3, none⟩ = some (.slice A0 n0 c0)
  d4 : w.cell? ⟨g, 4, none⟩ = some (.slice A1 n1 c1)
  d5 : w.cell? ⟨g, 5, none⟩ = some (.slice A2 n2 c2)
  r0 : RdS w (sgII A0 n0 its0)
  r1 : RdS w (sgII A1 n1 its1)
  r2 : RdI w A2 n2 os
section
variable {w w' : World} {g : Nat} {s hd a : Int} {A0 : Option Addr} {n0 c0 : Nat} {its0 : List It} {A1 : Option Addr} {n1 c1 : Nat} {its1 : List It} {A2 : Option Addr} {n2 c2 : Nat} {os : List Int}
theorem FormP.below (h : FormP w g s hd a A0 n0 c0 its0 A1 n1 c1 its1 A2 n2 c2 os) (hb : Below w.heap.size w w') : FormP w' g s hd a A0 n0 c0 its0 A1 n1 c1 its1 A2 n2 c2 os :=
  ⟨keepc hb h.d0, keepc hb h.d1, keepc hb h.d2, keepc hb h.d3, keepc hb h.d4, keepc hb h.d5, h.r0.below hb, h.r1.below hb, h.r2.below hb⟩
end
theorem formN_cases (st s hd : Int) (nw nr no : Nat) : (inB s 0 (st - 1) = false ∧ formN st s hd nw nr no = false) ∨ (inB s 0 (st - 1) = true ∧ decide ((nr : Int) < 1) = true ∧ formN st s hd nw nr no = false) ∨ (inB s 0 (st - 1) = true ∧ decide ((nr : Int) < 1) = false ∧ decide (3 < (nr : Int)) = true ∧ formN st s hd nw nr no = false) ∨
    (inB s 0 (st - 1) = true ∧ decide ((nr : Int) < 1) = false ∧ decide (3 < (nr : Int)) = false ∧ ((nw : Int) != nr + 1) = true ∧ formN st s hd nw nr no = false) ∨ (inB s 0 (st - 1) = true ∧ decide ((nr : Int) < 1) = false ∧ decide (3 < (nr : Int)) = false ∧ ((nw : Int) != nr + 1) = false ∧ ((no : Int) != nr) = true ∧ formN st s hd nw nr no = false) ∨
    (inB s 0 (st - 1) = true ∧ decide ((nr : Int) < 1) = false ∧ decide (3 < (nr : Int)) = false ∧ ((nw : Int) != nr + 1) = false ∧ ((no : Int) != nr) = false ∧ formN st s hd nw nr no = inB hd 0 nr) := by
  cases h1 : inB s 0 (st - 1)
  · exact .inl ⟨rfl, by simp [formN, h1]⟩
  by_cases h2 : (nr : Int) < 1
  · exact .inr (.inl ⟨rfl, decide_eq_true h2, by simp [formN, h1, inB_not (show ¬ (1 ≤ (nr : Int) ∧ (nr : Int) ≤ 3) by omega)]⟩)
  by_cases h3 : 3 < (nr : Int)
  · exact .inr (.inr (.inl ⟨rfl, decide_eq_false h2, decide_eq_true h3, by simp [formN, h1, inB_not (show ¬ (1 ≤ (nr : Int) ∧ (nr : Int) ≤ 3) by omega)]⟩))
  have e3 : inB (nr : Int) 1 3 = true := inB_of (by omega) (by omega)
  by_cases h4 : (nw : Int) = nr + 1
  · by_cases h5 : (no : Int) = nr
    · exact .inr (.inr (.inr (.inr (.inr ⟨rfl, decide_eq_false h2, decide_eq_false h3, by simpa using h4, by simpa using h5, by simp [formN, h1, e3, h4, h5]⟩))))
    · exact .inr (.inr (.inr (.inr (.inl ⟨rfl, decide_eq_false h2, decide_eq_false h3, by simpa using h4, by simpa using h5, by simp [formN, h5]⟩))))
  · exact .inr (.inr (.inr (.inl ⟨rfl, decide_eq_false h2, decide_eq_false h3, by simpa using h4, by simp [formN, h4]⟩)))

set_option maxHeartbeats 1000000 in
theorem l27Symbols_c (g : Nat) (sy st : Int) (A : Option Addr) (n cp : Nat) (rs : List Rule3) (A' : Option Addr) (m c' : Nat) (xs : List Int) (most : Int) (q : Bool) (w : World) (h : MachP w g sy st A n cp rs) (h' : RdI w A' m xs) (hsy : 2 ≤ sy ∧ sy ≤ 6) (hm : m ≤ 1000000000) (hq : symB sy most xs = q) :
    Calls Tryd.prog 95 #[.pointer (some ⟨g, 0, none⟩), .slice A' m c', .int .i64 most] w fun e w' => e = .returned (.bool q) ∧ Qt w w' := by
  have HL := Lib.hid h'.len
  have h0 := h.c0
  have H' := Lib.hid h'
  have HQ := Lib.hid (show (allB 0 (sy - 1) xs && decide ((m : Int) ≤ most)) = q by rw [← hq, symB, HL.out]); clear h h' hq
  obtain ⟨hsy0, hsy1⟩ := hsy
  go_enter Tryd.func95, Tryd.ntmps95
  go_wp2_with fail
  go_loopw [7] (fun iv wr => ∃ k : Nat, k ≤ m ∧ iv = .int .i64 k ∧ Hid (allB 0 (sy - 1) xs = allB 0 (sy - 1) (xs.drop k)) ∧ Qt w wr) (fun iv _ => m - (intOf iv).toNat)
  case atStart => exact ⟨0, by omega, rfl, rfl, (by first | exact Qt.refl _ | exact ⟨_, rfl⟩ | exact Qt.drewN ⟨_, rfl⟩ _)⟩
  case round =>
    obtain ⟨k, hk, rfl, hr, hq⟩ := hrel
    obtain ⟨mm, rfl⟩ := hq
    by_cases hlt : k < m
    · obtain ⟨ad, y, rfl, hab, hy, hcy⟩ := H'.out.at_ hlt
      have Hy := Lib.hid hy; clear hy
      cases hin : inB y 0 (sy - 1)
      · have HE := Lib.hid (show false = q by rw [← HQ.out, hr.out, drop_at Hy.out, allB, hin]; rfl)
        clear hr
        go_wp2_with fail
        go_quiet (first | (go_at_call 76; first | exact quiet_left (l00In_b _ _ _ _ (by assumption) _) | exact quiet_add_left (l00In_b _ _ _ _ (by assumption) _)))
        go_wp2_with fail
        go_ret
        exact ⟨by rw [← HE.out]; rfl, (by first | exact Qt.refl _ | exact ⟨_, rfl⟩ | exact Qt.drewN ⟨_, rfl⟩ _)⟩
      · have HE := Lib.hid (show allB 0 (sy - 1) xs = allB 0 (sy - 1) (xs.drop (k + 1)) by rw [hr.out, drop_at Hy.out, allB, hin]; rfl)
        clear hr
        go_wp2_with fail
        go_quiet (first | (go_at_call 76; first | exact quiet_left (l00In_b _ _ _ _ (by assumption) _) | exact quiet_add_left (l00In_b _ _ _ _ (by assumption) _)))
        go_wp2_with fail
        go_roundw
        case rel => exact ⟨k + 1, by omega, by go_num, HE.out, (by first | exact Qt.refl _ | exact ⟨_, rfl⟩ | exact Qt.drewN ⟨_, rfl⟩ _)⟩
        case measure => simp [intOf]; omega
    · have HE := Lib.hid (show decide ((m : Int) ≤ most) = q by rw [← HQ.out, hr.out, List.drop_eq_nil_of_le (by rw [HL.out]; omega)]; rfl)
      clear hr
      go_wp2_with fail
      go_ret
      exact ⟨by rw [← HE.out]; rfl, (by first | exact Qt.refl _ | exact ⟨_, rfl⟩ | exact Qt.drewN ⟨_, rfl⟩ _)⟩
theorem all_map (f : List Int → Bool) (its : List It) : (its.map It.xs).all f = its.all (fun t => f t.xs) := by rw [List.all_map]; rfl
set_option maxHeartbeats 4000000 in
set_option maxRecDepth 100000 in
theorem l27Is_c (g : Nat) (sy st : Int) (A : Option Addr) (n cp : Nat) (rs : List Rule3) (g' : Nat) (s hd a : Int) (A0 : Option Addr) (n0 c0 : Nat) (its0 : List It) (A1 : Option Addr) (n1 c1 : Nat) (its1 : List It) (A2 : Option Addr) (n2 c2 : Nat) (os : List Int) (q : Bool) (w : World)
    (h : MachP w g sy st A n cp rs) (h' : FormP w g' s hd a A0 n0 c0 its0 A1 n1 c1 its1 A2 n2 c2 os) (hsy : 2 ≤ sy ∧ sy ≤ 6) (hst : 1 ≤ st ∧ st ≤ 1000) (hn0 : n0 ≤ 1000000000) (hn1 : n1 ≤ 1000000000) (hn2 : n2 ≤ 1000000000) (hi0 : ∀ t ∈ its0, t.n ≤ 1000000000) (hi1 : ∀ t ∈ its1, t.n ≤ 1000000000)
    (hq : formB sy st s hd a (its0.map It.xs) (its1.map It.xs) os = q) :
    Calls Tryd.prog 61 #[.pointer (some ⟨g, 0, none⟩), .pointer (some ⟨g', 0, none⟩)] w fun e w' => e = .returned (.bool q) ∧ Qt w w' := by
  have HL0 := Lib.hid (RdII.len h'.r0); have HL1 := Lib.hid (RdII.len h'.r1); have HL2 := Lib.hid h'.r2.len
  have m0 := h.c0; have m1 := h.c1
  have k0 := h'.d0; have k1 := h'.d1; have k2 := h'.d2; have k3 := h'.d3; have k4 := h'.d4; have k5 := h'.d5
  have H := Lib.hid h; have H' := Lib.hid h'; have HI0 := Lib.hid hi0; have HI1 := Lib.hid hi1
  have HQ := Lib.hid (show (formN st s hd n0 n1 n2 && (its0.all (fun t => symB sy 100 t.xs) && ((its1.all (fun t => repB sy t.xs) && allB (-1000) 1000 os) && atB a hd n1 ((its0.map It.xs).getD hd.toNat []).length))) = q by
    rw [← hq, formB, all_map, all_map, List.length_map, List.length_map, HL0.out, HL1.out, HL2.out]); clear h h' hq hi0 hi1
  obtain ⟨hsy0, hsy1⟩ := hsy
  obtain ⟨hst0, hst1⟩ := hst
  have v0 : IntKind.i64.wrap (st - 1) = st - 1 := IntWalk.i64_in _ (by omega)
  have v1 : IntKind.i64.wrap ((n1 : Int) + 1) = (n1 : Int) + 1 := IntWalk.i64_in _ (by omega)
  rcases formN_cases st s hd n0 n1 n2 with ⟨i1, hN⟩ | ⟨i1, i2, hN⟩ | ⟨i1, i2, i3, hN⟩ | ⟨i1, i2, i3, i4, hN⟩ | ⟨i1, i2, i3, i4, i5, hN⟩ | ⟨i1, i2, i3, i4, i5, hN⟩
  iterate 5
    · have HF := Lib.hid (show false = q by rw [← HQ.out, hN]; rfl)
      clear hN HQ
      go_enter Tryd.func61, Tryd.ntmps61
      go_wp2_with fail
      go_quiet (first | (go_at_call 76; first | exact quiet_left (l00In_b s _ _ _ i1 _) | exact quiet_add_left (l00In_b s _ _ _ i1 _)))
      go_wp2_with fail
      go_ret
      exact ⟨by rw [← HF.out]; rfl, (by first | exact Qt.refl _ | exact ⟨_, rfl⟩ | exact Qt.drewN ⟨_, rfl⟩ _)⟩
  cases i6 : inB hd 0 n1
  · have HF := Lib.hid (show false = q by rw [← HQ.out, hN, i6]; rfl)
    clear hN HQ
    go_enter Tryd.func61, Tryd.ntmps61
    go_wp2_with fail
    go_quiet (first | (go_at_call 76; first | exact quiet_left (l00In_b _ _ _ _ (by first | rw [i1] | rw [i6]) _) | exact quiet_add_left (l00In_b _ _ _ _ (by first | rw [i1] | rw [i6]) _)))
    go_wp2_with fail
    go_ret
    exact ⟨by rw [← HF.out]; rfl, (by first | exact Qt.refl _ | exact ⟨_, rfl⟩ | exact Qt.drewN ⟨_, rfl⟩ _)⟩
  have hr1 : n0 = n1 + 1 := by simp at i4; omega
  have hr2 : n2 = n1 := by simp at i5; omega
  have HR1 := Lib.hid hr1; have HR2 := Lib.hid hr2
  have HF := Lib.hid (show (its0.all (fun t => symB sy 100 t.xs) && ((its1.all (fun t => repB sy t.xs) && allB (-1000) 1000 os) && atB a hd n1 ((its0.map It.xs).getD hd.toNat []).length)) = q by rw [← HQ.out, hN, i6]; rfl)
  have hd0 := inB_t i6
  obtain ⟨hh, rfl⟩ := Int.eq_ofNat_of_zero_le hd0.1
  have hhn : hh ≤ n1 := by omega
  have hn13 : n1 ≤ 3 := by have := of_decide_eq_false i3; omega
  clear hN HQ hd0
  go_enter Tryd.func61, Tryd.ntmps61
  go_wp2_with fail
  go_quiet (first | (go_at_call 76; first | exact quiet_left (l00In_b _ _ _ _ (by first | rw [i1] | rw [i6]) _) | exact quiet_add_left (l00In_b _ _ _ _ (by first | rw [i1] | rw [i6]) _)))
  clear i1 i2 i3 i4 i5 i6 v0 v1 hr1 hr2
  go_wp2_with fail
  go_loopw [6] (fun iv wr => ∃ k : Nat, k ≤ n0 ∧ iv = .int .i64 k ∧ Hid (its0.all (fun t => symB sy 100 t.xs) = (its0.drop k).all (fun t => symB sy 100 t.xs)) ∧ Qt w wr) (fun iv _ => n0 - (intOf iv).toNat)
  case atStart => exact ⟨0, by omega, rfl, rfl, (by first | exact Qt.refl _ | exact ⟨_, rfl⟩ | exact Qt.drewN ⟨_, rfl⟩ _)⟩
  case round =>
    obtain ⟨k, hk, rfl, hr, hq⟩ := hrel
    obtain ⟨mm, rfl⟩ := hq
    by_cases hlt : k < n0
    · obtain ⟨ad, t, rfl, hab, ht, hct, hrt⟩ := RdII.at_ H'.out.r0 hlt
      have HT := Lib.hid (show its0.all (fun t => symB sy 100 t.xs) = (symB sy 100 t.xs && (its0.drop (k + 1)).all (fun t => symB sy 100 t.xs)) by rw [hr.out, drop_at ht, List.all_cons])
      have hti := HI0.out t (List.mem_of_getElem? ht)
      have R := Lib.hid hrt.head
      have hlt' : k ≤ n1 := by have := HR1.out; omega
      clear hr ht hrt
      obtain ⟨u, hu⟩ : ∃ u, symB sy 100 t.xs = u := ⟨_, rfl⟩
      rw [hu] at HT
      go_wp2_with fail
      refine (l27Symbols_c g sy st A n cp rs t.A t.n t.c t.xs 100 u _ (by exact H.out.below (below_drewN below_size _)) (by exact Rd.drewN R.out _) ⟨hsy0, hsy1⟩ hti hu).mono ?_
      rintro e w1 ⟨rfl, ⟨m2, rfl⟩⟩
      clear hu
      cases u
      · have HE := Lib.hid (show false = q by rw [← HF.out, HT.out]; rfl)
        go_wp2_with fail
        go_ret
        exact ⟨by rw [← HE.out]; rfl, (by first | exact Qt.refl _ | exact ⟨_, rfl⟩ | exact Qt.drewN ⟨_, rfl⟩ _)⟩
      · have HE := Lib.hid (show its0.all (fun t => symB sy 100 t.xs) = (its0.drop (k + 1)).all (fun t => symB sy 100 t.xs) by rw [HT.out]; rfl)
        clear HT
        go_wp2_with fail
        go_roundw
        case rel => exact ⟨k + 1, by omega, by go_num, HE.out, (by first | exact Qt.refl _ | exact ⟨_, rfl⟩ | exact Qt.drewN ⟨_, rfl⟩ _)⟩
        case measure => simp [intOf]; omega
    · have HF2 := Lib.hid (show ((its1.all (fun t => repB sy t.xs) && allB (-1000) 1000 os) && atB a hh n1 ((its0.map It.xs).getD (hh : Int).toNat []).length) = q by rw [← HF.out, hr.out, List.drop_eq_nil_of_le (by rw [HL0.out]; omega)]; rfl)
      have hge : ¬ (k ≤ n1) := by have := HR1.out; omega
      clear hr HF
      go_wp2_with fail
      go_loopw [7] (fun iv wr => ∃ k : Nat, k ≤ n1 ∧ iv = .int .i64 k ∧ Hid ((its1.all (fun t => repB sy t.xs) && allB (-1000) 1000 os) = ((its1.drop k).all (fun t => repB sy t.xs) && allB (-1000) 1000 (os.drop k))) ∧ Qt w wr) (fun iv _ => n1 - (intOf iv).toNat)
      case atStart => exact ⟨0, by omega, rfl, rfl, ⟨_, rfl⟩⟩
      case round =>
        clear hge
        obtain ⟨k, hk, rfl, hr, hq⟩ := hrel
        obtain ⟨mm, rfl⟩ := hq
        by_cases hlt : k < n1
        · obtain ⟨ad, t, rfl, hab, ht, hct, hrt⟩ := RdII.at_ H'.out.r1 hlt
          obtain ⟨ad2, o, rfl, hab2, ho, hco⟩ := H'.out.r2.at_ (k := k) (by have := HR2.out; omega)
          have hlt2 : k < n2 := by have := HR2.out; omega
          have HT := Lib.hid (show (its1.all (fun t => repB sy t.xs) && allB (-1000) 1000 os) = ((repB sy t.xs && (its1.drop (k + 1)).all (fun t => repB sy t.xs)) && (inB o (-1000) 1000 && allB (-1000) 1000 (os.drop (k + 1)))) by rw [hr.out, drop_at ht, drop_at ho, List.all_cons, allB])
          have hti := HI1.out t (List.mem_of_getElem? ht)
          have hts := Lib.hid (RdII.size H'.out.r1 (List.mem_of_getElem? ht))
          have R := Lib.hid hrt.head
          clear hr ht ho hrt
          by_cases ht0 : t.n = 0
          · have HE := Lib.hid (show false = q by rw [← HF2.out, HT.out, repB, hts.out, ht0]; rfl)
            have e0 : ((t.n : Int) == 0) = true := by simp [ht0]
            clear ht0
            go_wp2_with fail
            go_ret
            exact ⟨by rw [← HE.out]; rfl, ⟨_, rfl⟩⟩
          have e0 : ((t.n : Int) == 0) = false := by simp; omega
          have HRS := Lib.hid (show repB sy t.xs = symB sy 20 t.xs by
            rw [repB, symB, hts.out, Bool.and_comm]; congr 1
            by_cases h20 : (t.n : Int) ≤ 20
            · rw [inB_of (by omega) h20]; simp; omega
            · rw [inB_not (by omega)]; simp; omega)
          obtain ⟨u, hu⟩ : ∃ u, symB sy 20 t.xs = u := ⟨_, rfl⟩
          rw [HRS.out, hu] at HT
          obtain ⟨v, hv⟩ : ∃ v, inB o (-1000) 1000 = v := ⟨_, rfl⟩
          rw [hv] at HT
          clear ht0 HRS
          go_wp2_with fail
          refine (l27Symbols_c g sy st A n cp rs t.A t.n t.c t.xs 20 u _ (by exact H.out.below (below_drewN below_size _)) (by exact Rd.drewN R.out _) ⟨hsy0, hsy1⟩ hti hu).mono ?_
          rintro e w1 ⟨rfl, ⟨m2, rfl⟩⟩
          clear hu
          cases u
          · have HE := Lib.hid (show false = q by rw [← HF2.out, HT.out]; rfl)
            clear hv
            go_wp2_with fail
            go_ret
            exact ⟨by rw [← HE.out]; rfl, (by first | exact Qt.refl _ | exact ⟨_, rfl⟩ | exact Qt.drewN ⟨_, rfl⟩ _)⟩
          go_wp2_with fail
          refine (l00In_b o _ _ _ hv _).mono ?_
          rintro e w1 ⟨rfl, rfl⟩
          clear hv
          cases v
          · have HE := Lib.hid (show false = q by rw [← HF2.out, HT.out]; simp)
            go_wp2_with fail
            go_ret
            exact ⟨by rw [← HE.out]; rfl, (by first | exact Qt.refl _ | exact ⟨_, rfl⟩ | exact Qt.drewN ⟨_, rfl⟩ _)⟩
          · have HE := Lib.hid (show (its1.all (fun t => repB sy t.xs) && allB (-1000) 1000 os) = ((its1.drop (k + 1)).all (fun t => repB sy t.xs) && allB (-1000) 1000 (os.drop (k + 1))) by rw [HT.out]; simp)
            clear HT
            go_wp2_with fail
            go_roundw
            case rel => exact ⟨k + 1, by omega, by go_num, HE.out, (by first | exact Qt.refl _ | exact ⟨_, rfl⟩ | exact Qt.drewN ⟨_, rfl⟩ _)⟩
            case measure => simp [intOf]; omega
        · obtain ⟨ad, t, rfl, hab, ht, hct, hrt⟩ := RdII.at_ (k := hh) H'.out.r0 (by have := HR1.out; omega)
          have hts := Lib.hid (RdII.size H'.out.r0 (List.mem_of_getElem? ht))
          have HF3 := Lib.hid (show inB a (if 0 < (hh : Int) then -1 else 0) (if (hh : Int) = n1 then (t.n : Int) - 1 else t.n) = q by
            rw [← HF2.out, hr.out, List.drop_eq_nil_of_le (by rw [HL1.out]; omega), List.drop_eq_nil_of_le (by rw [HL2.out, HR2.out]; omega), Int.toNat_natCast, List.getD_eq_getElem?_getD, List.getElem?_map, ht]
            simp only [Option.map_some, Option.getD_some, hts.out]
            simp [allB, atB])
          have hti := HI0.out t (List.mem_of_getElem? ht)
          have hh0 : hh < n0 := by have := HR1.out; omega
          clear hr ht hrt
          by_cases g1 : 0 < hh
          all_goals
            obtain ⟨e2, he2⟩ : ∃ e, ((hh : Int) == (n1 : Int)) = e := ⟨_, rfl⟩
            cases e2
          all_goals
            have HG := Lib.hid (show (hh : Int) = n1 ∨ (hh : Int) ≠ n1 by omega)
            have HG2 := Lib.hid he2
            go_wp2_with fail
            go_quiet (fail)
            go_wp2_with fail
            refine (l00In_b a _ _ q ?_ _).mono ?_
            · have h1 := HF3.out; have h2 := HG2.out
              simp at h2
              first
                | (rw [if_pos (by omega), if_pos (by omega)] at h1; exact h1)
                | (rw [if_pos (by omega), if_neg (by omega)] at h1; exact h1)
                | (rw [if_neg (by omega), if_pos (by omega)] at h1; exact h1)
                | (rw [if_neg (by omega), if_neg (by omega)] at h1; exact h1)
            rintro e w1 ⟨rfl, rfl⟩
            go_wp2_with fail
            go_ret
            exact ⟨rfl, (by first | exact Qt.refl _ | exact ⟨_, rfl⟩ | exact Qt.drewN ⟨_, rfl⟩ _)⟩
theorem at_eq {a hd r len : Int} (h : 0 ≤ hd ∧ hd ≤ r) (hl : 0 ≤ len) : atB a hd r len = (inB a 0 (len - 1) || (decide (a = len) && decide (hd < r)) || (decide (a = -1) && decide (0 < hd))) := by
  unfold atB
  rw [Bool.eq_iff_iff, inB_iff]
  simp only [Bool.or_eq_true, Bool.and_eq_true, decide_eq_true_eq, inB_iff]
  by_cases h1 : 0 < hd <;> by_cases h2 : hd = r
  · rw [if_pos h1, if_pos h2]; omega
  · rw [if_pos h1, if_neg h2]; omega
  · rw [if_neg h1, if_pos h2]; omega
  · rw [if_neg h1, if_neg h2]; omega
theorem beq_dec (a b : Int) : (a == b) = decide (a = b) := by by_cases h : a = b <;> simp [h]
theorem sizeII_c (A : Option Addr) (n c : Nat) (w : World) (_hn : n ≤ 1000000000000) :
    Calls Tryd.prog 119 #[.slice A n c] w fun e w' => e = .returned (.int .i64 n) ∧ w = w' := by
  go_enter Tryd.func119, Tryd.ntmps119
  go_wp2
  go_ret
  exact ⟨rfl, rfl⟩
set_option maxHeartbeats 4000000 in
set_option maxRecDepth 100000 in
theorem formulaOf_c (sy st : Int) (A : Option Addr) (n cp : Nat) (s hd a : Int) (A0 : Option Addr) (n0 c0 : Nat) (its0 : List It) (A1 : Option Addr) (n1 c1 : Nat) (its1 : List It) (A2 : Option Addr) (n2 c2 : Nat) (os : List Int) (q : Bool) (w : World)
    (h0 : RdS w (sgII A0 n0 its0)) (h1 : RdS w (sgII A1 n1 its1)) (h2 : RdI w A2 n2 os) (hsy : 2 ≤ sy ∧ sy ≤ 6) (hst : 1 ≤ st ∧ st ≤ 1000) (hn0 : n0 ≤ 1000000000) (hn1 : n1 ≤ 1000000000) (hn2 : n2 ≤ 1000000000) (hi0 : ∀ t ∈ its0, t.n ≤ 1000000000) (hi1 : ∀ t ∈ its1, t.n ≤ 1000000000)
    (hq : formB sy st s hd a (its0.map It.xs) (its1.map It.xs) os = q) :
    Calls Tryd.prog 96 #[.agg #[.int .i64 sy, .int .i64 st, .slice A n cp], .agg #[.int .i64 s, .int .i64 hd, .int .i64 a, .slice A0 n0 c0, .slice A1 n1 c1, .slice A2 n2 c2]] w fun e w' => e = .returned (.bool q) ∧ Below w.heap.size w w' := by
  have HL0 := Lib.hid (RdII.len h0); have HL1 := Lib.hid (RdII.len h1); have HL2 := Lib.hid h2.len
  obtain ⟨w0, hw0⟩ : ∃ w0, (w.alloc (.cells #[i64 sy, i64 st, .slice A n cp] 41)).alloc (.cells #[i64 s, i64 hd, i64 a, .slice A0 n0 c0, .slice A1 n1 c1, .slice A2 n2 c2] 61) = w0 := ⟨_, rfl⟩
  have B0 := Lib.hid (show Below w.heap.size w w0 by rw [← hw0]; exact (below_size.alloc (Nat.le_refl _) _).alloc (by simp) _)
  have H := Lib.hid (show FormP w0 (w.heap.size + 1) s hd a A0 n0 c0 its0 A1 n1 c1 its1 A2 n2 c2 os by
    have e := fun i => new_cell (w.alloc (.cells #[i64 sy, i64 st, .slice A n cp] 41)) #[i64 s, i64 hd, i64 a, .slice A0 n0 c0, .slice A1 n1 c1, .slice A2 n2 c2] 61 i
    simp only [World.size_alloc, hw0] at e
    exact ⟨e 0, e 1, e 2, e 3, e 4, e 5, h0.below B0.out, h1.below B0.out, h2.below B0.out⟩)
  have m0 : w0.cell? ⟨w.heap.size, 0, none⟩ = some (i64 sy) := by rw [← hw0]; exact keepa _ (new_cell _ _ _ 0)
  have m1 : w0.cell? ⟨w.heap.size, 1, none⟩ = some (i64 st) := by rw [← hw0]; exact keepa _ (new_cell _ _ _ 1)
  have k0 := H.out.d0; have k1 := H.out.d1; have k2 := H.out.d2; have k3 := H.out.d3; have k4 := H.out.d4; have k5 := H.out.d5
  have HI0 := Lib.hid hi0; have HI1 := Lib.hid hi1
  obtain ⟨u1, hu1⟩ : ∃ u, inB s 0 (st - 1) = u := ⟨_, rfl⟩
  obtain ⟨u2, hu2⟩ : ∃ u, inB (n1 : Int) 1 3 = u := ⟨_, rfl⟩
  obtain ⟨u6, hu6⟩ : ∃ u, inB hd 0 n1 = u := ⟨_, rfl⟩
  have HQ := Lib.hid (show ((((u1 && u2) && decide ((n0 : Int) = n1 + 1)) && decide ((n2 : Int) = n1)) && u6 && (its0.all (fun t => symB sy 100 t.xs) && ((its1.all (fun t => repB sy t.xs) && allB (-1000) 1000 os) && atB a hd n1 ((its0.map It.xs).getD hd.toNat []).length))) = q by
    rw [← hq, formB, all_map, all_map, List.length_map, List.length_map, HL0.out, HL1.out, HL2.out, formN, hu1, hu2, hu6]); clear h0 h1 h2 hq hi0 hi1
  obtain ⟨hsy0, hsy1⟩ := hsy
  obtain ⟨hst0, hst1⟩ := hst
  have HU2 := Lib.hid hu2; have HU6 := Lib.hid hu6
  go_enter Tryd.func96, Tryd.ntmps96
  go_wp2_with (go_at_call 119; refine (sizeII_c _ _ _ _ (by omega)).mono ?_; rintro e w' ⟨rfl, rfl⟩)
  refine (within_b s _ _ _ hu1 _).mono ?_
  rintro e w' ⟨rfl, rfl⟩
  clear hu1 hw0
  cases u1
  · have HF := Lib.hid (show false = q by rw [← HQ.out]; rfl)
    clear hu2 hu6
    go_wp2_with fail
    go_ret
    exact ⟨by rw [← HF.out]; rfl, B0.out⟩
  go_wp2_with fail
  refine (within_b _ _ _ _ hu2 _).mono ?_
  rintro e w' ⟨rfl, rfl⟩
  clear hu2
  cases u2
  · have HF := Lib.hid (show false = q by rw [← HQ.out]; rfl)
    clear hu6
    go_wp2_with fail
    go_ret
    exact ⟨by rw [← HF.out]; rfl, B0.out⟩
  have hn3 : n1 ≤ 3 := by have := inB_t HU2.out; omega
  go_wp2_with fail
  refine (sizeII_c _ _ _ _ (by omega)).mono ?_
  rintro e w' ⟨rfl, rfl⟩
  by_cases h4 : (n0 : Int) = n1 + 1
  case neg =>
    have HF := Lib.hid (show false = q by rw [← HQ.out]; simp [h4])
    have e4 : ((n0 : Int) != n1 + 1) = true := by simpa using h4
    clear h4 hu6
    go_wp2_with fail
    go_ret
    exact ⟨by rw [← HF.out]; rfl, B0.out⟩
  have e4 : ((n0 : Int) != n1 + 1) = false := by simpa using h4
  have H4 := Lib.hid h4
  clear h4
  go_wp2_with fail
  refine (sizeI_c _ _ _ _ (by omega)).mono ?_
  rintro e w' ⟨rfl, rfl⟩
  by_cases h5 : (n2 : Int) = n1
  case neg =>
    have HF := Lib.hid (show false = q by rw [← HQ.out]; simp [h5])
    have e5 : ((n2 : Int) != n1) = true := by simpa using h5
    clear h5 hu6
    go_wp2_with fail
    go_ret
    exact ⟨by rw [← HF.out]; rfl, B0.out⟩
  have e5 : ((n2 : Int) != n1) = false := by simpa using h5
  have H5 := Lib.hid h5
  clear h5
  have HF := Lib.hid (show (u6 && (its0.all (fun t => symB sy 100 t.xs) && ((its1.all (fun t => repB sy t.xs) && allB (-1000) 1000 os) && atB a hd n1 ((its0.map It.xs).getD hd.toNat []).length))) = q by rw [← HQ.out]; simp [H4.out, H5.out])
  clear hu6 HQ
  go_wp2_with fail
  clear e4 e5
  go_loopw [44] (fun iv wr => ∃ k : Nat, k ≤ n0 ∧ iv = .int .i64 k ∧ Hid (its0.all (fun t => symB sy 100 t.xs) = (its0.drop k).all (fun t => symB sy 100 t.xs)) ∧ w0 = wr) (fun iv _ => n0 - (intOf iv).toNat)
  case atStart => exact ⟨0, by omega, rfl, rfl, rfl⟩
  case round =>
    obtain ⟨k, hk, rfl, hr, rfl⟩ := hrel
    by_cases hlt : k < n0
    · obtain ⟨ad, t, rfl, hab, ht, hct, hrt⟩ := RdII.at_ H.out.r0 hlt
      have hts := Lib.hid (RdII.size H.out.r0 (List.mem_of_getElem? ht))
      have HT := Lib.hid (show its0.all (fun t => symB sy 100 t.xs) = (symB sy 100 t.xs && (its0.drop (k + 1)).all (fun t => symB sy 100 t.xs)) by rw [hr.out, drop_at ht, List.all_cons])
      have hti := HI0.out t (List.mem_of_getElem? ht)
      have R := Lib.hid hrt.head
      clear hr ht hrt
      by_cases hbig : 100 < t.n
      · have HE := Lib.hid (show false = q by rw [← HF.out, HT.out, symB, hts.out, show decide ((t.n : Int) ≤ 100) = false by simp; omega]; simp)
        go_wp2_with fail
        go_ret
        exact ⟨by rw [← HE.out]; rfl, B0.out⟩
      obtain ⟨u, hu⟩ : ∃ u, allB 0 (sy - 1) t.xs = u := ⟨_, rfl⟩
      have HT2 := Lib.hid (show its0.all (fun t => symB sy 100 t.xs) = (u && (its0.drop (k + 1)).all (fun t => symB sy 100 t.xs)) by rw [HT.out, symB, hts.out, hu, show decide ((t.n : Int) ≤ 100) = true by simp; omega]; simp)
      clear HT
      go_wp2_with fail
      refine (allWithin_b _ _ _ t.xs _ _ _ hu _ (by exact R.out) (by omega)).mono ?_
      rintro e w' ⟨rfl, rfl⟩
      clear hu
      cases u
      · have HE := Lib.hid (show false = q by rw [← HF.out, HT2.out]; simp)
        go_wp2_with fail
        go_ret
        exact ⟨by rw [← HE.out]; rfl, B0.out⟩
      · have HE := Lib.hid (show its0.all (fun t => symB sy 100 t.xs) = (its0.drop (k + 1)).all (fun t => symB sy 100 t.xs) by rw [HT2.out]; rfl)
        clear HT2
        go_wp2_with fail
        go_roundw
        case rel => exact ⟨k + 1, by omega, by go_num, HE.out, by trivial⟩
        case measure => simp [intOf]; omega
    · have HF2 := Lib.hid (show (u6 && ((its1.all (fun t => repB sy t.xs) && allB (-1000) 1000 os) && atB a hd n1 ((its0.map It.xs).getD hd.toNat []).length)) = q by rw [← HF.out, hr.out, List.drop_eq_nil_of_le (by rw [HL0.out]; omega)]; rfl)
      clear hr HF
      go_wp2_with fail
      clear hlt
      go_loopw [63] (fun iv wr => ∃ k : Nat, k ≤ n1 ∧ iv = .int .i64 k ∧ Hid (its1.all (fun t => repB sy t.xs) = (its1.drop k).all (fun t => repB sy t.xs)) ∧ w0 = wr) (fun iv _ => n1 - (intOf iv).toNat)
      case atStart => exact ⟨0, by omega, rfl, rfl, rfl⟩
      case round =>
        obtain ⟨k, hk, rfl, hr, rfl⟩ := hrel
        by_cases hlt : k < n1
        · obtain ⟨ad, t, rfl, hab, ht, hct, hrt⟩ := RdII.at_ H.out.r1 hlt
          have hts := Lib.hid (RdII.size H.out.r1 (List.mem_of_getElem? ht))
          have hti := HI1.out t (List.mem_of_getElem? ht)
          obtain ⟨u, hu⟩ : ∃ u, inB (t.n : Int) 1 20 = u := ⟨_, rfl⟩
          obtain ⟨v, hv⟩ : ∃ v, allB 0 (sy - 1) t.xs = v := ⟨_, rfl⟩
          have HT := Lib.hid (show its1.all (fun t => repB sy t.xs) = ((u && v) && (its1.drop (k + 1)).all (fun t => repB sy t.xs)) by rw [hr.out, drop_at ht, List.all_cons, repB, hts.out, hu, hv])
          have R := Lib.hid hrt.head
          clear hr ht hrt
          go_wp2_with (go_at_call 79; refine (sizeI_c _ _ _ _ (by omega)).mono ?_; rintro e w' ⟨rfl, rfl⟩)
          refine (within_b _ _ _ _ hu _).mono ?_
          rintro e w' ⟨rfl, rfl⟩
          clear hu
          cases u
          · have HE := Lib.hid (show false = q by rw [← HF2.out, HT.out]; simp)
            clear hv
            go_wp2_with fail
            go_ret
            exact ⟨by rw [← HE.out]; rfl, B0.out⟩
          go_wp2_with fail
          refine (allWithin_b _ _ _ t.xs _ _ _ hv _ (by exact R.out) (by omega)).mono ?_
          rintro e w' ⟨rfl, rfl⟩
          clear hv
          cases v
          · have HE := Lib.hid (show false = q by rw [← HF2.out, HT.out]; simp)
            go_wp2_with fail
            go_ret
            exact ⟨by rw [← HE.out]; rfl, B0.out⟩
          · have HE := Lib.hid (show its1.all (fun t => repB sy t.xs) = (its1.drop (k + 1)).all (fun t => repB sy t.xs) by rw [HT.out]; rfl)
            clear HT
            go_wp2_with fail
            go_roundw
            case rel => exact ⟨k + 1, by omega, by go_num, HE.out, by trivial⟩
            case measure => simp [intOf]; omega
        · obtain ⟨v, hv⟩ : ∃ v, allB (-1000) 1000 os = v := ⟨_, rfl⟩
          have HF3 := Lib.hid (show (u6 && (v && atB a hd n1 ((its0.map It.xs).getD hd.toNat []).length)) = q by rw [← HF2.out, hr.out, List.drop_eq_nil_of_le (by rw [HL1.out]; omega), hv]; rfl)
          clear hr HF2
          go_wp2_with fail
          refine (allWithin_b _ _ _ os _ _ _ hv _ (by exact H.out.r2) (by omega)).mono ?_
          rintro e w' ⟨rfl, rfl⟩
          clear hv hlt
          cases v
          · have HE := Lib.hid (show false = q by rw [← HF3.out]; simp)
            go_wp2_with fail
            go_ret
            exact ⟨by rw [← HE.out]; rfl, B0.out⟩
          go_wp2_with fail
          refine (within_b _ _ _ _ HU6.out _).mono ?_
          rintro e w' ⟨rfl, rfl⟩
          cases u6
          · have HE := Lib.hid (show false = q by rw [← HF3.out]; simp)
            go_wp2_with fail
            go_ret
            exact ⟨by rw [← HE.out]; rfl, B0.out⟩
          have hd0 := inB_t HU6.out
          obtain ⟨hh, rfl⟩ := Int.eq_ofNat_of_zero_le hd0.1
          obtain ⟨ad, t, rfl, hab, ht, hct, hrt⟩ := RdII.at_ (k := hh) H.out.r0 (by have := H4.out; omega)
          have hts := Lib.hid (RdII.size H.out.r0 (List.mem_of_getElem? ht))
          have hti := HI0.out t (List.mem_of_getElem? ht)
          have hh0 : hh < n0 := by have := H4.out; omega
          obtain ⟨u, hu⟩ : ∃ u, inB a 0 ((t.n : Int) - 1) = u := ⟨_, rfl⟩
          obtain ⟨x1, hx1⟩ : ∃ x, (a == (t.n : Int)) = x := ⟨_, rfl⟩
          obtain ⟨x2, hx2⟩ : ∃ x, (a == -1) = x := ⟨_, rfl⟩
          have HF4 := Lib.hid (show (u || (x1 && decide ((hh : Int) < n1)) || (x2 && decide (0 < (hh : Int)))) = q by
            rw [← HF3.out, Int.toNat_natCast, List.getD_eq_getElem?_getD, List.getElem?_map, ht]
            simp only [Option.map_some, Option.getD_some, hts.out]
            rw [at_eq ⟨hd0.1, hd0.2⟩ (by omega), hu, ← hx1, ← hx2]
            simp only [Bool.true_and, beq_dec])
          clear ht hrt hd0
          go_wp2_with (go_at_call 79; refine (sizeI_c _ _ _ _ (by omega)).mono ?_; rintro e w' ⟨rfl, rfl⟩)
          refine (within_b a _ _ _ hu _).mono ?_
          rintro e w' ⟨rfl, rfl⟩
          clear hu
          have HX1 := Lib.hid hx1; have HX2 := Lib.hid hx2
          clear hx1 hx2
          cases u
          · cases x1
            · have hx1 := HX1.out
              cases x2
              · have hx2 := HX2.out
                go_wp2_with fail
                go_ret
                exact ⟨by rw [← HF4.out]; first | rfl | simp, B0.out⟩
              · have hx2 := HX2.out
                go_wp2_with fail
                go_ret
                exact ⟨by rw [← HF4.out]; first | rfl | simp, B0.out⟩
            · have hx1 := HX1.out
              by_cases g : hh < n1
              · go_wp2_with fail
                go_ret
                exact ⟨by rw [← HF4.out]; simp [g], B0.out⟩
              · cases x2
                all_goals
                  have hx2 := HX2.out
                  go_wp2_with fail
                  go_ret
                  exact ⟨by rw [← HF4.out]; simp [g], B0.out⟩
          · go_wp2_with fail
            go_ret
            exact ⟨by rw [← HF4.out]; simp, B0.out⟩
def vformB (sy st : Int) (rs : List Rule3) (s hd a : Int) (ws rps : List (List Int)) (os : List Int) : Bool := machB sy st rs && formB sy st s hd a ws rps os
def sgForm (A0 : Option Addr) (n0 : Nat) (its0 : List It) (A1 : Option Addr) (n1 : Nat) (its1 : List It) (A2 : Option Addr) (n2 : Nat) (os : List Int) : List Seg := sgII A0 n0 its0 ++ sgII A1 n1 its1 ++ [sgI A2 n2 os]
set_option maxHeartbeats 1000000 in
theorem iValidFormula_c (sy st : Int) (A : Option Addr) (n cp : Nat) (rs : List Rule3) (s hd a : Int) (A0 : Option Addr) (n0 c0 : Nat) (its0 : List It) (A1 : Option Addr) (n1 c1 : Nat) (its1 : List It) (A2 : Option Addr) (n2 c2 : Nat) (os : List Int) (w : World)
    (h : RdS w [sgX enc3 3 A n rs]) (h' : RdS w (sgForm A0 n0 its0 A1 n1 its1 A2 n2 os)) (hn : n ≤ 1000000000) (hn' : n0 ≤ 1000000000) (hna : n1 ≤ 1000000000) (hnb : n2 ≤ 1000000000) (hi0 : ∀ t ∈ its0, t.n ≤ 1000000000) (hi1 : ∀ t ∈ its1, t.n ≤ 1000000000) :
    Calls Tryd.prog 64 #[.agg #[.int .i64 sy, .int .i64 st, .slice A n cp], .agg #[.int .i64 s, .int .i64 hd, .int .i64 a, .slice A0 n0 c0, .slice A1 n1 c1, .slice A2 n2 c2]] w fun e w' => e = .returned (.bool (vformB sy st rs s hd a (its0.map It.xs) (its1.map It.xs) os)) ∧ Below w.heap.size w w' := by
  have H := Lib.hid (show Rd3 w A n rs from h.head); have H' := Lib.hid h'; clear h h'
  obtain ⟨w0, hw0⟩ : ∃ w0, (w.alloc (.cells #[i64 sy, i64 st, .slice A n cp] 41)).alloc (.cells #[i64 s, i64 hd, i64 a, .slice A0 n0 c0, .slice A1 n1 c1, .slice A2 n2 c2] 61) = w0 := ⟨_, rfl⟩
  have B0 := Lib.hid (show Below w.heap.size w w0 by rw [← hw0]; exact (below_size.alloc (Nat.le_refl _) _).alloc (by simp) _)
  have F0 := Lib.hid (show FormP w0 (w.heap.size + 1) s hd a A0 n0 c0 its0 A1 n1 c1 its1 A2 n2 c2 os by
    have e := fun i => new_cell (w.alloc (.cells #[i64 sy, i64 st, .slice A n cp] 41)) #[i64 s, i64 hd, i64 a, .slice A0 n0 c0, .slice A1 n1 c1, .slice A2 n2 c2] 61 i
    simp only [World.size_alloc, hw0] at e
    have hh := H'.out.below B0.out
    exact ⟨e 0, e 1, e 2, e 3, e 4, e 5, hh.left.left, hh.left.right, hh.right.head⟩)
  have M0 := Lib.hid (show MachP w0 w.heap.size sy st A n cp rs by rw [← hw0]; exact ⟨keepa _ (new_cell _ _ _ 0), keepa _ (new_cell _ _ _ 1), keepa _ (new_cell _ _ _ 2), (Rd.alloc H.out _).alloc _⟩)
  obtain ⟨q, hq⟩ : ∃ q, machB sy st rs = q := ⟨_, rfl⟩
  obtain ⟨r, hr⟩ : ∃ r, formB sy st s hd a (its0.map It.xs) (its1.map It.xs) os = r := ⟨_, rfl⟩
  have HF := Lib.hid (show vformB sy st rs s hd a (its0.map It.xs) (its1.map It.xs) os = (q && r) by rw [vformB, hq, hr])
  have HQ := Lib.hid hq; have HI0 := Lib.hid hi0; have HI1 := Lib.hid hi1; have HR := Lib.hid hr
  clear hr hi0 hi1
  have m0 := M0.out.c0; have m1 := M0.out.c1; have m2 := M0.out.c2
  go_enter Tryd.func64, Tryd.ntmps64
  go_wp2_with fail
  refine (validMachine_c sy st A n cp rs q _ (by exact M0.out.rd) hn hq).mono ?_
  rintro e w1 ⟨rfl, hb⟩
  have T := Lib.hid (below_chain B0.out B0.out.size hb)
  have M1 := Lib.hid (M0.out.below hb); have F1 := Lib.hid (F0.out.below hb)
  clear hb hq m0 m1 m2 hw0
  have m0 := M1.out.c0; have m1 := M1.out.c1; have m2 := M1.out.c2
  have k0 := F1.out.d0; have k1 := F1.out.d1; have k2 := F1.out.d2; have k3 := F1.out.d3; have k4 := F1.out.d4; have k5 := F1.out.d5
  cases q
  · go_wp2_with fail
    go_ret
    exact ⟨by rw [HF.out]; rfl, T.out⟩
  have hbd := machB_bd HQ.out
  go_wp2_with fail
  refine (formulaOf_c sy st A n cp s hd a A0 n0 c0 its0 A1 n1 c1 its1 A2 n2 c2 os r _ (by exact F1.out.r0) (by exact F1.out.r1) (by exact F1.out.r2) hbd.1 hbd.2.1 hn' hna hnb HI0.out HI1.out HR.out).mono ?_
  rintro e w2 ⟨rfl, hb⟩
  have T2 := Lib.hid (below_chain T.out T.out.size hb); clear hb
  clear hbd
  go_wp2_with fail
  go_ret
  exact ⟨by rw [HF.out]; rfl, T2.out⟩
end Go.Proofs.YtfbmjlohdhogmaaDoor
