/-
  Contracts of chapter 27 (NormalFormula): what is only asked of a formula tape.
-/
import Derived.Test.YtmmgejnhfpfmnaaNfS
import Derived.Test.YtmmgejnhfpfmnaaEqI
import Derived.Test.YtmmgejnhfpfmnaaC27t
namespace Go.Proofs.Ytmmgejnhfpfmnaa
open Go.RowKit

def underB (hd a i k : Int) : Bool := decide (hd = i) && decide (a = k)
theorem underB_f {hd a i k : Int} (h : ¬ (hd = i ∧ a = k)) : underB hd a i k = false := by
  unfold underB
  by_cases h1 : hd = i
  · have h2 : ¬ a = k := fun h2 => h ⟨h1, h2⟩
    simp [h2]
  · simp [h1]
theorem specUnder_c (g : Nat) (s hd a : Int) (A0 : Option Addr) (n0 c0 : Nat) (its0 : List It) (A1 : Option Addr) (n1 c1 : Nat) (its1 : List It) (A2 : Option Addr) (n2 c2 : Nat) (os : List Int) (i k : Int) (q : Bool) (w : World) (h : FormP w g s hd a A0 n0 c0 its0 A1 n1 c1 its1 A2 n2 c2 os) (hq : underB hd a i k = q) :
    Calls Try.prog 153 #[.pointer (some ⟨g, 0, none⟩), .int .i64 i, .int .i64 k] w fun e w' => e = .returned (.bool q) ∧ Qt w w' := by
  have k1 := h.d1; have k2 := h.d2
  clear h
  by_cases h1 : hd = i
  · have e1 : (hd == i) = true := by simp [h1]
    have HQ := Lib.hid (show (a == k) = q by rw [← hq, underB, h1]; simp; rfl)
    clear hq h1
    go_enter Try.func153, Try.ntmps153
    go_wp2_with fail
    go_ret
    exact ⟨by first | (rw [← HQ.out]; done) | (rw [← HQ.out]; rfl), (by first | exact Qt.refl _ | exact ⟨_, rfl⟩ | exact Qt.drewN ⟨_, rfl⟩ _)⟩
  · have e1 : (hd == i) = false := by simp [h1]
    have HQ := Lib.hid (show false = q by rw [← hq, underB]; simp [h1])
    clear hq h1
    go_enter Try.func153, Try.ntmps153
    go_wp2_with fail
    go_ret
    exact ⟨by first | (rw [← HQ.out]; done) | (rw [← HQ.out]; rfl), (by first | exact Qt.refl _ | exact ⟨_, rfl⟩ | exact Qt.drewN ⟨_, rfl⟩ _)⟩
theorem implUnder_c (g : Nat) (s hd a : Int) (A0 : Option Addr) (n0 c0 : Nat) (its0 : List It) (A1 : Option Addr) (n1 c1 : Nat) (its1 : List It) (A2 : Option Addr) (n2 c2 : Nat) (os : List Int) (i k : Int) (q : Bool) (w : World) (h : FormP w g s hd a A0 n0 c0 its0 A1 n1 c1 its1 A2 n2 c2 os) (hq : underB hd a i k = q) :
    Calls Try.prog 155 #[.pointer (some ⟨g, 0, none⟩), .int .i64 i, .int .i64 k] w fun e w' => e = .returned (.bool q) ∧ Qt w w' := by
  have k1 := h.d1; have k2 := h.d2
  clear h
  by_cases h1 : hd = i
  · have e1 : (hd == i) = true := by simp [h1]
    have HQ := Lib.hid (show (a == k) = q by rw [← hq, underB, h1]; simp; rfl)
    clear hq h1
    go_enter Try.func155, Try.ntmps155
    go_wp2_with fail
    go_ret
    exact ⟨by first | (rw [← HQ.out]; done) | (rw [← HQ.out]; rfl), (by first | exact Qt.refl _ | exact ⟨_, rfl⟩ | exact Qt.drewN ⟨_, rfl⟩ _)⟩
  · have e1 : (hd == i) = false := by simp [h1]
    have HQ := Lib.hid (show false = q by rw [← hq, underB]; simp [h1])
    clear hq h1
    go_enter Try.func155, Try.ntmps155
    go_wp2_with fail
    go_ret
    exact ⟨by first | (rw [← HQ.out]; done) | (rw [← HQ.out]; rfl), (by first | exact Qt.refl _ | exact ⟨_, rfl⟩ | exact Qt.drewN ⟨_, rfl⟩ _)⟩
theorem pre_eq {p b : List Int} : decide (p <+: b) = (decide (p.length ≤ b.length) && eqL (b.take p.length) p) := by
  by_cases h : p <+: b
  · have h1 := h.length_le
    have h2 := List.prefix_iff_eq_take.1 h
    simp [h, h1, eqL, ← h2]
  · by_cases h1 : p.length ≤ b.length
    · have h2 : b.take p.length ≠ p := fun e => h (by rw [List.prefix_iff_eq_take]; exact e.symm)
      simp [h, h1, eqL, h2]
    · simp [h, h1]
theorem l03At_c (B : Option Addr) (nb cb : Nat) (b : List Int) (P : Option Addr) (np cp : Nat) (p : List Int) (q : Bool) (w : World) (hb : RdI w B nb b) (hp : RdI w P np p) (hcb : nb ≤ cb) (_hnb : nb ≤ 1000000) (hnp : np ≤ 1000000) (hq : decide (p <+: b) = q) :
    Calls Try.prog 154 #[.slice B nb cb, .int .i64 0, .slice P np cp] w fun e w' => e = .returned (.bool q) ∧ Qt w w' := by
  have hlb := hb.len; have hlp := hp.len
  have HP := Lib.hid hp
  rw [pre_eq, hlb, hlp] at hq
  by_cases h1 : np ≤ nb
  · have e1 : decide ((np : Int) ≤ (nb : Int)) = true := decide_eq_true (by omega)
    have v1 : IntKind.i64.wrap ((0 : Int) + (np : Int)) = (np : Int) := (IntWalk.i64_in _ (by omega)).trans (by omega)
    have HB := Lib.hid (hb.take h1)
    have HQ := Lib.hid (show eqL (b.take np) p = q by rw [← hq, decide_eq_true h1]; rfl)
    clear hq hb hp hlb hlp
    go_enter Try.func154, Try.ntmps154
    go_wp2_with fail
    refine (l00Same_c B P np np cb cp (b.take np) p _ (by exact HB.out) (by exact HP.out) (by omega)).mono ?_
    rintro e w1 ⟨rfl, hq1⟩
    rw [HQ.out]
    go_wp2_with fail
    go_ret
    exact ⟨rfl, hq1⟩
  · have e1 : decide ((np : Int) ≤ (nb : Int)) = false := decide_eq_false (by omega)
    have v1 : IntKind.i64.wrap ((0 : Int) + (np : Int)) = (np : Int) := (IntWalk.i64_in _ (by omega)).trans (by omega)
    have HQ := Lib.hid (show false = q by rw [← hq, decide_eq_false h1]; rfl)
    clear hq hb hp hlb hlp
    go_enter Try.func154, Try.ntmps154
    go_wp2_with fail
    go_ret
    exact ⟨by first | (rw [← HQ.out]; done) | (rw [← HQ.out]; rfl), (by first | exact Qt.refl _ | exact ⟨_, rfl⟩ | exact Qt.drewN ⟨_, rfl⟩ _)⟩
theorem begins_c (B : Option Addr) (nb cb : Nat) (b : List Int) (P : Option Addr) (np cp : Nat) (p : List Int) (q : Bool) (w : World) (hb : RdI w B nb b) (hp : RdI w P np p) (hcb : nb ≤ cb) (_hnb : nb ≤ 1000000) (hnp : np ≤ 1000000) (hq : decide (p <+: b) = q) :
    Calls Try.prog 156 #[.slice B nb cb, .slice P np cp] w fun e w' => e = .returned (.bool q) ∧ Qt w w' := by
  have hlb := hb.len; have hlp := hp.len
  have HP := Lib.hid hp
  rw [pre_eq, hlb, hlp] at hq
  by_cases h1 : np ≤ nb
  · have e1 : decide ((np : Int) ≤ (nb : Int)) = true := decide_eq_true (by omega)
    have HB := Lib.hid (hb.take h1)
    have HQ := Lib.hid (show eqL (b.take np) p = q by rw [← hq, decide_eq_true h1]; rfl)
    clear hq hb hp hlb hlp
    go_enter Try.func156, Try.ntmps156
    go_wp2_with fail
    refine (equalI_c B P np np cb cp (b.take np) p _ (by exact HB.out) (by exact HP.out) (by omega)).mono ?_
    rintro e w1 ⟨rfl, hq1⟩
    rw [HQ.out]
    go_wp2_with fail
    go_ret
    exact ⟨rfl, hq1⟩
  · have e1 : decide ((np : Int) ≤ (nb : Int)) = false := decide_eq_false (by omega)
    have HQ := Lib.hid (show false = q by rw [← hq, decide_eq_false h1]; rfl)
    clear hq hb hp hlb hlp
    go_enter Try.func156, Try.ntmps156
    go_wp2_with fail
    go_ret
    exact ⟨by first | (rw [← HQ.out]; done) | (rw [← HQ.out]; rfl), (by first | exact Qt.refl _ | exact ⟨_, rfl⟩ | exact Qt.drewN ⟨_, rfl⟩ _)⟩

def touchQ (hd a : Int) (i : Nat) (len : Nat) : Bool := (decide (hd = i) && decide (a = (len : Nat))) || (decide (hd = i + 1) && decide (a = -1))
theorem touchB_eq {hd : Int} {i : Nat} {S : NF} {xs : List Int} (h : S.ws[i]? = some xs) : touchB hd i S = touchQ hd S.a i xs.length := by
  rw [touchB, touchQ, List.getD_eq_getElem?_getD, h]; rfl
set_option maxHeartbeats 1000000 in
theorem l27Touched_c (g : Nat) (s hd a : Int) (A0 : Option Addr) (n0 c0 : Nat) (its0 : List It) (A1 : Option Addr) (n1 c1 : Nat) (its1 : List It) (A2 : Option Addr) (n2 c2 : Nat) (os : List Int) (i : Nat) (t : It) (q : Bool) (w : World) (h : FormP w g s hd a A0 n0 c0 its0 A1 n1 c1 its1 A2 n2 c2 os) (hi : i ≤ 1000) (ht : its0[i]? = some t) (hq : touchQ hd a i t.n = q) :
    Calls Try.prog 116 #[.pointer (some ⟨g, 0, none⟩), .int .i64 i] w fun e w' => e = .returned (.bool q) ∧ Qt w w' := by
  have hl := RdII.len h.r0
  have hil := (List.getElem?_eq_some_iff.1 ht).1
  obtain ⟨ad, t', rfl, hab, ht', hct, hrt⟩ := RdII.at_ (k := i) h.r0 (by omega)
  obtain rfl : t' = t := Option.some.inj (ht'.symm.trans ht)
  have hin : i < n0 := by omega
  have k1 := h.d1; have k2 := h.d2; have k3 := h.d3
  clear h ht ht' hrt hl hil hab
  have v1 : IntKind.i64.wrap ((i : Int) + 1) = (i : Int) + 1 := IntWalk.i64_in _ (by omega)
  obtain ⟨b1, e1⟩ : ∃ b, (hd == (i : Int)) = b := ⟨_, rfl⟩
  obtain ⟨b2, e2⟩ : ∃ b, (a == ((t'.n : Nat) : Int)) = b := ⟨_, rfl⟩
  obtain ⟨b3, e3⟩ : ∃ b, (hd == (i : Int) + 1) = b := ⟨_, rfl⟩
  obtain ⟨b4, e4⟩ : ∃ b, (a == (-1 : Int)) = b := ⟨_, rfl⟩
  have HQ := Lib.hid (show ((b1 && b2) || (b3 && b4)) = q by rw [← hq, touchQ, ← e1, ← e2, ← e3, ← e4]; rfl)
  clear hq
  cases b1
  · cases b3
    · have HE := Lib.hid (show false = q by rw [← HQ.out]; simp)
      clear HQ
      go_enter Try.func116, Try.ntmps116
      go_wp2_with fail
      go_quiet (fail)
      go_wp2_with fail
      go_ret
      exact ⟨by rw [← HE.out]; rfl, (by first | exact Qt.refl _ | exact ⟨_, rfl⟩ | exact Qt.drewN ⟨_, rfl⟩ _)⟩
    · have HE := Lib.hid (show b4 = q by rw [← HQ.out]; simp)
      clear HQ
      go_enter Try.func116, Try.ntmps116
      go_wp2_with fail
      go_quiet (fail)
      go_wp2_with fail
      go_ret
      exact ⟨by rw [← HE.out]; first | rfl | (rw [e4]; rfl), (by first | exact Qt.refl _ | exact ⟨_, rfl⟩ | exact Qt.drewN ⟨_, rfl⟩ _)⟩
  · cases b2
    · cases b3
      · have HE := Lib.hid (show false = q by rw [← HQ.out]; simp)
        clear HQ
        go_enter Try.func116, Try.ntmps116
        go_wp2_with fail
        go_quiet (fail)
        go_wp2_with fail
        go_ret
        exact ⟨by rw [← HE.out]; rfl, (by first | exact Qt.refl _ | exact ⟨_, rfl⟩ | exact Qt.drewN ⟨_, rfl⟩ _)⟩
      · have HE := Lib.hid (show b4 = q by rw [← HQ.out]; simp)
        clear HQ
        go_enter Try.func116, Try.ntmps116
        go_wp2_with fail
        go_quiet (fail)
        go_wp2_with fail
        go_ret
        exact ⟨by rw [← HE.out]; first | rfl | (rw [e4]; rfl), (by first | exact Qt.refl _ | exact ⟨_, rfl⟩ | exact Qt.drewN ⟨_, rfl⟩ _)⟩
    · have HE := Lib.hid (show true = q by rw [← HQ.out]; simp)
      clear HQ
      go_enter Try.func116, Try.ntmps116
      go_wp2_with fail
      go_quiet (fail)
      go_wp2_with fail
      go_ret
      exact ⟨by rw [← HE.out]; rfl, (by first | exact Qt.refl _ | exact ⟨_, rfl⟩ | exact Qt.drewN ⟨_, rfl⟩ _)⟩
def onR (hd a : Int) (len : Nat) : Int × Int := if a = -1 then (hd - 1, -1) else if a = (len : Nat) then (hd, 1) else (0, 0)
theorem onR_touch {hd a : Int} {h i lu lt : Nat} (hh : hd = (h : Int)) (he : h = i → lu = lt) : (decide ((onR hd a lu).2 ≠ 0) && decide ((onR hd a lu).1 = i)) = touchQ hd a i lt := by
  subst hh
  unfold onR touchQ
  by_cases h1 : a = -1
  · rw [if_pos h1, h1]
    simp
    by_cases h2 : (h : Int) - 1 = i
    · simp [show (h : Int) = i + 1 by omega]
    · simp [h2, show ¬ (h : Int) = i + 1 by omega]
  · rw [if_neg h1]
    by_cases h2 : a = (lu : Nat)
    · rw [if_pos h2]
      by_cases h3 : h = i
      · subst h3; simp [h2, he rfl]
      · have e3 : decide ((h : Int) = (i : Int)) = false := decide_eq_false (by omega)
        simp [e3, h1]
    · rw [if_neg h2]
      by_cases h3 : h = i
      · subst h3; simp [h1]; rw [← he rfl]; exact h2
      · have e3 : decide ((h : Int) = (i : Int)) = false := decide_eq_false (by omega)
        simp [e3, h1]
set_option maxHeartbeats 1000000 in
theorem onRepeater_c (g : Nat) (s : Int) (h : Nat) (a : Int) (A0 : Option Addr) (n0 c0 : Nat) (its0 : List It) (A1 : Option Addr) (n1 c1 : Nat) (its1 : List It) (A2 : Option Addr) (n2 c2 : Nat) (os : List Int) (u : It) (x y : Int) (w : World) (hf : FormP w g s h a A0 n0 c0 its0 A1 n1 c1 its1 A2 n2 c2 os) (hh : h ≤ 1000) (hu : its0[h]? = some u) (hun : u.n ≤ 1000000) (hR : onR h a u.n = (x, y)) :
    Calls Try.prog 157 #[.pointer (some ⟨g, 0, none⟩)] w fun e w' => e = .returned (.tuple #[.int .i64 x, .int .i64 y]) ∧ Qt w w' := by
  have hl := RdII.len hf.r0
  have hil := (List.getElem?_eq_some_iff.1 hu).1
  obtain ⟨ad, t', rfl, hab, ht', hct, hrt⟩ := RdII.at_ (k := h) hf.r0 (by omega)
  obtain rfl : t' = u := Option.some.inj (ht'.symm.trans hu)
  have hin : h < n0 := by omega
  have k1 := hf.d1; have k2 := hf.d2; have k3 := hf.d3
  clear hf hu ht' hrt hl hil hab
  have v1 : IntKind.i64.wrap ((h : Int) - 1) = (h : Int) - 1 := IntWalk.i64_in _ (by omega)
  obtain ⟨b2, e2⟩ : ∃ b, (a == ((t'.n : Nat) : Int)) = b := ⟨_, rfl⟩
  obtain ⟨b4, e4⟩ : ∃ b, (a == (-1 : Int)) = b := ⟨_, rfl⟩
  cases b4
  · have h1 : ¬ a = -1 := by simpa using e4
    cases b2
    · have h2 : ¬ a = ((t'.n : Nat) : Int) := by simpa using e2
      rw [onR, if_neg h1, if_neg h2] at hR
      injection hR with hx hy; subst hx; subst hy
      clear h1 h2
      go_enter Try.func157, Try.ntmps157
      go_wp2_with fail
      go_quiet (first | (go_at_call 92; first | exact quiet_left (sizeI_c _ _ _ _ (by omega)) | exact quiet_add_left (sizeI_c _ _ _ _ (by omega))))
      go_wp2_with fail
      go_ret2
      exact ⟨rfl, (by first | exact Qt.refl _ | exact ⟨_, rfl⟩ | exact Qt.drewN ⟨_, rfl⟩ _)⟩
    · have h2 : a = ((t'.n : Nat) : Int) := by simpa using e2
      rw [onR, if_neg h1, if_pos h2] at hR
      injection hR with hx hy; subst hx; subst hy
      clear h1 h2
      go_enter Try.func157, Try.ntmps157
      go_wp2_with fail
      go_quiet (first | (go_at_call 92; first | exact quiet_left (sizeI_c _ _ _ _ (by omega)) | exact quiet_add_left (sizeI_c _ _ _ _ (by omega))))
      go_wp2_with fail
      go_ret2
      exact ⟨rfl, (by first | exact Qt.refl _ | exact ⟨_, rfl⟩ | exact Qt.drewN ⟨_, rfl⟩ _)⟩
  · have h1 : a = -1 := by simpa using e4
    rw [onR, if_pos h1] at hR
    injection hR with hx hy; subst hx; subst hy
    clear h1 e2
    go_enter Try.func157, Try.ntmps157
    go_wp2_with fail
    go_ret2
    exact ⟨rfl, (by first | exact Qt.refl _ | exact ⟨_, rfl⟩ | exact Qt.drewN ⟨_, rfl⟩ _)⟩
theorem touched_c (g : Nat) (s : Int) (h : Nat) (a : Int) (A0 : Option Addr) (n0 c0 : Nat) (its0 : List It) (A1 : Option Addr) (n1 c1 : Nat) (its1 : List It) (A2 : Option Addr) (n2 c2 : Nat) (os : List Int) (i : Nat) (t u : It) (q : Bool) (w : World) (hf : FormP w g s h a A0 n0 c0 its0 A1 n1 c1 its1 A2 n2 c2 os) (hh : h ≤ 1000) (hu : its0[h]? = some u) (hun : u.n ≤ 1000000) (ht : its0[i]? = some t) (hq : touchQ h a i t.n = q) :
    Calls Try.prog 123 #[.pointer (some ⟨g, 0, none⟩), .int .i64 i] w fun e w' => e = .returned (.bool q) ∧ Qt w w' := by
  obtain ⟨p, hp⟩ : ∃ p, onR h a u.n = p := ⟨_, rfl⟩
  obtain ⟨x, y⟩ := p
  have hk := onR_touch (hd := h) (a := a) (h := h) (i := i) (lu := u.n) (lt := t.n) rfl (fun e => by subst e; rw [ht] at hu; injection hu with hu; rw [hu])
  rw [hp] at hk
  have HK := Lib.hid (show (decide (y ≠ 0) && decide (x = i)) = q from hk.trans hq)
  have HP := Lib.hid hp; have HF := Lib.hid hf
  clear hk hp hf hq ht
  have e1 : (y != 0) = decide (y ≠ 0) := by by_cases h : y = 0 <;> simp [h]
  obtain ⟨b1, eb⟩ : ∃ b, decide (y ≠ 0) = b := ⟨_, rfl⟩
  rw [eb] at HK e1
  cases b1
  · have HE := Lib.hid (show false = q by rw [← HK.out]; rfl)
    go_enter Try.func123, Try.ntmps123
    go_wp2_with fail
    refine (onRepeater_c g s h a A0 n0 c0 its0 A1 n1 c1 its1 A2 n2 c2 os u x y _ (by exact HF.out) hh hu hun HP.out).mono ?_
    rintro e w1 ⟨rfl, hq1⟩
    go_wp2_with fail
    go_ret
    exact ⟨by rw [← HE.out]; rfl, hq1⟩
  · have HE := Lib.hid (show (x == (i : Int)) = q by rw [← HK.out]; rfl)
    go_enter Try.func123, Try.ntmps123
    go_wp2_with fail
    refine (onRepeater_c g s h a A0 n0 c0 its0 A1 n1 c1 its1 A2 n2 c2 os u x y _ (by exact HF.out) hh hu hun HP.out).mono ?_
    rintro e w1 ⟨rfl, hq1⟩
    go_wp2_with fail
    go_ret
    exact ⟨by rw [← HE.out]; rfl, hq1⟩
end Go.Proofs.Ytmmgejnhfpfmnaa
