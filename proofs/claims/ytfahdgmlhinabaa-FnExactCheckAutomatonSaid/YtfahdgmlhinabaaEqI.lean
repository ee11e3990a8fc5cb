/-
  Equal lists of numbers, and a list of numbers in a list of lists.
-/
import Derived.Test.YtfahdgmlhinabaaSegII
import Derived.Test.YtfahdgmlhinabaaOwnS
import Derived.Test.YtfahdgmlhinabaaC05
namespace Go.Proofs.Ytfahdgmlhinabaa
open Go.RowKit

set_option maxRecDepth 100000 in
theorem l00Same_c (A A' : Option Addr) (n n' c c' : Nat) (xs ys : List Int) (w : World) (h : RdI w A n xs) (h' : RdI w A' n' ys) (hn : n ≤ 1000000000000) :
    Calls Try.prog 125 #[.slice A n c, .slice A' n' c'] w fun e w' => e = .returned (.bool (eqL xs ys)) ∧ Qt w w' := by
  have HL := Lib.hid h.len
  have HL' := Lib.hid h'.len
  have H := Lib.hid h
  have H' := Lib.hid h'
  clear h h'
  by_cases hnn : n = n'
  · have hne : ((n : Int) != (n' : Int)) = false := by simp [hnn]
    have HN := Lib.hid hnn; clear hnn
    go_enter Try.func125, Try.ntmps125
    go_wp2
    go_loopw [5] (fun i wr => ∃ k : Nat, k ≤ n ∧ i = .int .i64 k ∧ Hid (xs.take k = ys.take k) ∧ Qt w wr) (fun i _ => n - (intOf i).toNat)
    case atStart => exact ⟨0, by omega, rfl, by simp [Hid], Qt.refl _⟩
    case round =>
      obtain ⟨k, hk, rfl, hr, hq⟩ := hrel
      obtain ⟨m, rfl⟩ := hq
      by_cases hlt : k < n
      · obtain ⟨ad, x, rfl, hab, hx, hc⟩ := H.out.at_ hlt
        obtain ⟨ad', y, rfl, hab', hy, hc'⟩ := H'.out.at_ (show k < n' by rw [← HN.out]; exact hlt)
        have hlt' : k < n' := by rw [← HN.out]; exact hlt
        have Hx := Lib.hid hx
        have Hy := Lib.hid hy
        clear hx hy
        by_cases hxy : x = y
        · have hxy' : (x != y) = false := by simp [hxy]
          have HE := Lib.hid hxy; clear hxy
          go_wp2
          go_quiet (fail)
          go_wp2
          go_roundw
          case rel => exact ⟨k + 1, by omega, by go_num, by unfold Hid; rw [take_at Hx.out, take_at Hy.out, hr.out, HE.out], (by first | exact Qt.refl _ | exact ⟨_, rfl⟩ | exact Qt.drewN ⟨_, rfl⟩ _)⟩
          case measure => simp [intOf]; omega
        · have hxy' : (x != y) = true := by simpa using hxy
          have HE := Lib.hid hxy; clear hxy
          go_wp2
          go_quiet (fail)
          go_wp2
          go_ret
          refine ⟨?_, (by first | exact Qt.refl _ | exact ⟨_, rfl⟩ | exact Qt.drewN ⟨_, rfl⟩ _)⟩
          have : xs ≠ ys := fun e => HE.out (by have h1 := Hx.out; have h2 := Hy.out; rw [e, h2] at h1; injection h1 with h1; exact h1.symm)
          simp [eqL, this]
      · have HK := Lib.hid (show k = n by omega)
        go_wp2
        go_ret
        refine ⟨?_, (by first | exact Qt.refl _ | exact ⟨_, rfl⟩ | exact Qt.drewN ⟨_, rfl⟩ _)⟩
        have h1 := hr.out
        rw [List.take_of_length_le (by rw [HL.out]; omega), List.take_of_length_le (by rw [HL'.out, ← HN.out]; omega)] at h1
        simp [eqL, h1]
  · have hne : ((n : Int) != (n' : Int)) = true := by simp; omega
    have HN := Lib.hid hnn; clear hnn
    go_enter Try.func125, Try.ntmps125
    go_wp2
    go_ret
    refine ⟨?_, Qt.refl _⟩
    have : xs ≠ ys := fun e => HN.out (by rw [← HL.out, ← HL'.out, e])
    simp [eqL, this]
set_option maxRecDepth 100000 in
theorem equalI_c (A A' : Option Addr) (n n' c c' : Nat) (xs ys : List Int) (w : World) (h : RdI w A n xs) (h' : RdI w A' n' ys) (hn : n ≤ 1000000000000) :
    Calls Try.prog 109 #[.slice A n c, .slice A' n' c'] w fun e w' => e = .returned (.bool (eqL xs ys)) ∧ Qt w w' := by
  have HL := Lib.hid h.len
  have HL' := Lib.hid h'.len
  have H := Lib.hid h
  have H' := Lib.hid h'
  clear h h'
  by_cases hnn : n = n'
  · have hne : ((n : Int) != (n' : Int)) = false := by simp [hnn]
    have HN := Lib.hid hnn; clear hnn
    go_enter Try.func109, Try.ntmps109
    go_wp2
    go_loopw [13] (fun i wr => ∃ k : Nat, k ≤ n ∧ i = .int .i64 k ∧ Hid (xs.take k = ys.take k) ∧ Qt w wr) (fun i _ => n - (intOf i).toNat)
    case atStart => exact ⟨0, by omega, rfl, by simp [Hid], Qt.refl _⟩
    case round =>
      obtain ⟨k, hk, rfl, hr, hq⟩ := hrel
      obtain ⟨m, rfl⟩ := hq
      by_cases hlt : k < n
      · obtain ⟨ad, x, rfl, hab, hx, hc⟩ := H.out.at_ hlt
        obtain ⟨ad', y, rfl, hab', hy, hc'⟩ := H'.out.at_ (show k < n' by rw [← HN.out]; exact hlt)
        have hlt' : k < n' := by rw [← HN.out]; exact hlt
        have Hx := Lib.hid hx
        have Hy := Lib.hid hy
        clear hx hy
        by_cases hxy : x = y
        · have hxy' : (x != y) = false := by simp [hxy]
          have HE := Lib.hid hxy; clear hxy
          go_wp2
          go_quiet (fail)
          go_wp2
          go_roundw
          case rel => exact ⟨k + 1, by omega, by go_num, by unfold Hid; rw [take_at Hx.out, take_at Hy.out, hr.out, HE.out], (by first | exact Qt.refl _ | exact ⟨_, rfl⟩ | exact Qt.drewN ⟨_, rfl⟩ _)⟩
          case measure => simp [intOf]; omega
        · have hxy' : (x != y) = true := by simpa using hxy
          have HE := Lib.hid hxy; clear hxy
          go_wp2
          go_quiet (fail)
          go_wp2
          go_ret
          refine ⟨?_, (by first | exact Qt.refl _ | exact ⟨_, rfl⟩ | exact Qt.drewN ⟨_, rfl⟩ _)⟩
          have : xs ≠ ys := fun e => HE.out (by have h1 := Hx.out; have h2 := Hy.out; rw [e, h2] at h1; injection h1 with h1; exact h1.symm)
          simp [eqL, this]
      · have HK := Lib.hid (show k = n by omega)
        go_wp2
        go_ret
        refine ⟨?_, (by first | exact Qt.refl _ | exact ⟨_, rfl⟩ | exact Qt.drewN ⟨_, rfl⟩ _)⟩
        have h1 := hr.out
        rw [List.take_of_length_le (by rw [HL.out]; omega), List.take_of_length_le (by rw [HL'.out, ← HN.out]; omega)] at h1
        simp [eqL, h1]
  · have hne : ((n : Int) != (n' : Int)) = true := by simp; omega
    have HN := Lib.hid hnn; clear hnn
    go_enter Try.func109, Try.ntmps109
    go_wp2
    go_ret
    refine ⟨?_, Qt.refl _⟩
    have : xs ≠ ys := fun e => HN.out (by rw [← HL.out, ← HL'.out, e])
    simp [eqL, this]
/-- the first place of a list in a list of lists, or -1 -/
def rowAt (y : List Int) : Nat → List (List Int) → Int
  | _, [] => -1
  | k, x :: l => if x = y then k else rowAt y (k + 1) l
theorem rowAt_mem (y : List Int) : ∀ (l : List (List Int)) (k : Nat), decide (0 ≤ rowAt y k l) = decide (y ∈ l)
  | [], k => by simp [rowAt]
  | x :: l, k => by
    rw [rowAt]
    by_cases h : x = y
    · simp [h]
    · rw [if_neg h, rowAt_mem y l]
      simp; exact fun e => absurd e.symm h
theorem rowAt_lt (y : List Int) (l : List (List Int)) (k : Nat) : decide (rowAt y k l < 0) = !decide (y ∈ l) := by
  rw [← rowAt_mem y l k]
  by_cases h : 0 ≤ rowAt y k l
  · simp [h]
  · simp [h]; omega
set_option maxHeartbeats 1000000 in
theorem l10Row_c (A : Option Addr) (n c : Nat) (its : List It) (A' : Option Addr) (n' c' : Nat) (y : List Int) (w : World) (h : RdS w (sgII A n its)) (h' : RdI w A' n' y) (hn : n ≤ 1000000000) (hi : ∀ t ∈ its, t.n ≤ 1000000000) :
    Calls Try.prog 84 #[.slice A n c, .slice A' n' c'] w fun e w' => e = .returned (.int .i64 (rowAt y 0 (its.map It.xs))) ∧ Qt w w' := by
  have HL := Lib.hid (RdII.len h)
  have HI := Lib.hid hi
  have H := Lib.hid h; have H' := Lib.hid h'; clear h h' hi
  obtain ⟨F, hF⟩ : ∃ F, rowAt y 0 (its.map It.xs) = F := ⟨_, rfl⟩
  rw [hF]
  have HF := Lib.hid hF; clear hF
  go_enter Try.func84, Try.ntmps84
  go_wp2_with fail
  go_loopw [5] (fun iv wr => ∃ k : Nat, k ≤ n ∧ iv = .int .i64 k ∧ Hid (F = rowAt y k ((its.drop k).map It.xs)) ∧ Qt w wr) (fun iv _ => n - (intOf iv).toNat)
  case atStart => exact ⟨0, by omega, rfl, HF.out.symm, Qt.refl _⟩
  case round =>
    obtain ⟨k, hk, rfl, hr, hq⟩ := hrel
    obtain ⟨m, rfl⟩ := hq
    by_cases hlt : k < n
    · obtain ⟨ad, t, rfl, hab, ht, hc, hrd⟩ := RdII.at_ (H.out.drewN m) hlt
      have hti := HI.out t (List.mem_of_getElem? ht)
      have HS := Lib.hid (show F = if t.xs = y then (k : Int) else rowAt y (k + 1) ((its.drop (k + 1)).map It.xs) by rw [hr.out, drop_at ht, List.map_cons, rowAt])
      have R := Lib.hid hrd
      clear ht hrd hr
      obtain ⟨o, ho⟩ : ∃ o, eqL t.xs y = o := ⟨_, rfl⟩
      go_wp2_with fail
      refine (l00Same_c t.A _ t.n _ _ _ t.xs y _ R.out.head (by exact H'.out.drewN m) (by omega)).mono ?_
      rw [ho]
      rintro e w1 ⟨rfl, hq⟩
      have Q := Lib.hid (Qt.trans ⟨m, rfl⟩ hq : Qt w w1); clear hq
      cases o
      · have HE := Lib.hid (show F = rowAt y (k + 1) ((its.drop (k + 1)).map It.xs) by rw [HS.out, if_neg (of_decide_eq_false ho)])
        clear HS ho
        go_wp2_with fail
        go_roundw
        case rel => exact ⟨k + 1, by omega, by go_num, HE.out, Q.out⟩
        case measure => simp [intOf]; omega
      · have HE := Lib.hid (show F = k by rw [HS.out, if_pos (of_decide_eq_true ho)])
        clear HS ho
        go_wp2_with fail
        go_ret
        exact ⟨by rw [HE.out]; rfl, Q.out⟩
    · have HE := Lib.hid (show F = -1 by rw [hr.out, List.drop_eq_nil_of_le (by rw [HL.out]; omega)]; rfl)
      clear hr
      go_wp2_with fail
      go_ret
      exact ⟨by rw [HE.out]; rfl, ⟨m, rfl⟩⟩
set_option maxHeartbeats 1000000 in
theorem segPred1_c (g : Nat) (A : Option Addr) (n c : Nat) (y : List Int) (A' : Option Addr) (n' c' : Nat) (z : List Int) (w : World) (hg : Blk w g 25 #[.slice A n c]) (h : RdI w A n y) (h' : RdI w A' n' z) (hn : n ≤ 1000000000) :
    Calls Try.prog 108 #[.slice A' n' c', .pointer (some ⟨g, 0, none⟩)] w fun e w' => e = .returned (.bool (eqL y z)) ∧ Qt w w' := by
  have c0 := hg.cell 0
  simp at c0
  clear hg
  go_enter Try.func108, Try.ntmps108
  go_wp2_with fail
  refine (equalI_c _ _ _ _ _ _ y z _ h h' (by omega)).mono ?_
  rintro e w1 ⟨rfl, hq⟩
  have Q := Lib.hid hq; clear hq
  go_wp2_with fail
  go_ret
  exact ⟨rfl, Q.out⟩
set_option maxHeartbeats 1000000 in
set_option maxRecDepth 100000 in
theorem indexSeg_c (g : Nat) (A' : Option Addr) (n' c' : Nat) (y : List Int) (A : Option Addr) (n c : Nat) (its : List It) (w : World) (hg : Blk w g 25 #[.slice A' n' c']) (h : RdS w (sgII A n its)) (h' : RdI w A' n' y) (hn : n ≤ 1000000000) (hn' : n' ≤ 1000000000) :
    Calls Try.prog 148 #[.slice A n c, .func (.func 108) #[] #[.pointer (some ⟨g, 0, none⟩)]] w fun e w' => e = .returned (.int .i64 (rowAt y 0 (its.map It.xs))) ∧ Qt w w' := by
  have HL := Lib.hid (RdII.len h)
  have H := Lib.hid h; have H' := Lib.hid h'; have HG := Lib.hid hg; clear h h' hg
  obtain ⟨F, hF⟩ : ∃ F, rowAt y 0 (its.map It.xs) = F := ⟨_, rfl⟩
  rw [hF]
  have HF := Lib.hid hF; clear hF
  go_enter Try.func148, Try.ntmps148
  go_wp2_with fail
  go_loopw [8] (fun iv wr => ∃ k : Nat, k ≤ n ∧ iv = .int .i64 k ∧ Hid (F = rowAt y k ((its.drop k).map It.xs)) ∧ Qt w wr) (fun iv _ => n - (intOf iv).toNat)
  case atStart => exact ⟨0, by omega, rfl, HF.out.symm, Qt.refl _⟩
  case round =>
    obtain ⟨k, hk, rfl, hr, hq⟩ := hrel
    obtain ⟨m, rfl⟩ := hq
    by_cases hlt : k < n
    · obtain ⟨ad, t, rfl, hab, ht, hc, hrd⟩ := RdII.at_ (H.out.drewN m) hlt
      have HS := Lib.hid (show F = if t.xs = y then (k : Int) else rowAt y (k + 1) ((its.drop (k + 1)).map It.xs) by rw [hr.out, drop_at ht, List.map_cons, rowAt])
      have R := Lib.hid hrd
      clear ht hrd hr
      obtain ⟨o, ho⟩ : ∃ o, eqL y t.xs = o := ⟨_, rfl⟩
      go_wp2_with fail
      refine (segPred1_c g A' n' c' y _ _ _ t.xs _ (by exact HG.out.drewN m) (by exact H'.out.drewN m) R.out.head hn').mono ?_
      rw [ho]
      rintro e w1 ⟨rfl, hq⟩
      have Q := Lib.hid (Qt.trans ⟨m, rfl⟩ hq : Qt w w1); clear hq
      cases o
      · have HE := Lib.hid (show F = rowAt y (k + 1) ((its.drop (k + 1)).map It.xs) by rw [HS.out, if_neg (fun e => of_decide_eq_false ho e.symm)])
        clear HS ho
        go_wp2_with fail
        go_roundw
        case rel => exact ⟨k + 1, by omega, by go_num, HE.out, Q.out⟩
        case measure => simp [intOf]; omega
      · have HE := Lib.hid (show F = k by rw [HS.out, if_pos (of_decide_eq_true ho).symm])
        clear HS ho
        go_wp2_with fail
        go_ret
        exact ⟨by rw [HE.out]; rfl, Q.out⟩
    · have HE := Lib.hid (show F = -1 by rw [hr.out, List.drop_eq_nil_of_le (by rw [HL.out]; omega)]; rfl)
      clear hr
      go_wp2_with fail
      go_ret
      exact ⟨by rw [HE.out]; rfl, ⟨m, rfl⟩⟩
theorem containsSeg_c (g : Nat) (A' : Option Addr) (n' c' : Nat) (y : List Int) (A : Option Addr) (n c : Nat) (its : List It) (q : Bool) (w : World) (hg : Blk w g 25 #[.slice A' n' c']) (h : RdS w (sgII A n its)) (h' : RdI w A' n' y) (hn : n ≤ 1000000000) (hn' : n' ≤ 1000000000) (hq : decide (y ∈ its.map It.xs) = q) :
    Calls Try.prog 107 #[.slice A n c, .func (.func 108) #[] #[.pointer (some ⟨g, 0, none⟩)]] w fun e w' => e = .returned (.bool q) ∧ Qt w w' := by
  have HQ := Lib.hid (show decide (0 ≤ rowAt y 0 (its.map It.xs)) = q by rw [rowAt_mem, hq])
  clear hq
  go_enter Try.func107, Try.ntmps107
  go_wp2_with fail
  refine (indexSeg_c g A' n' c' y A n c its _ hg h h' hn hn').mono ?_
  rintro e w1 ⟨rfl, hq⟩
  have Q := Lib.hid hq; clear hq
  generalize rowAt y 0 (its.map It.xs) = E at *
  go_wp2_with fail
  go_ret
  exact ⟨by rw [← HQ.out]; rfl, Q.out⟩
/-- a list of lists of the call's own -/
def IIOut (R : List (List Int)) (w : World) (e : Ending) (w' : World) : Prop :=
  ∃ A n c its, e = .returned (.slice A n c) ∧ WrS w' w.heap.size w'.heap.size (sgII A n its) ∧ (n ≤ 1000000 ∧ (∀ t ∈ its, t.n ≤ 1000000) ∧ sumN its ≤ 100000000 ∧ its.map It.xs = R) ∧ Below w.heap.size w w'
/-- .. and a code -/
def IIOut2 (R : List (List Int) × Int) (w : World) (e : Ending) (w' : World) : Prop :=
  ∃ A n c its, e = .returned (.tuple #[.slice A n c, .int .i64 R.2]) ∧ WrS w' w.heap.size w'.heap.size (sgII A n its) ∧ (n ≤ 1000000 ∧ (∀ t ∈ its, t.n ≤ 1000000) ∧ sumN its ≤ 100000000 ∧ its.map It.xs = R.1) ∧ Below w.heap.size w w'
theorem IIOut2.bad {w w' : World} (k : Int) (h : Below w.heap.size w w') : IIOut2 ([], k) w (.returned (.tuple #[.slice none 0 0, .int .i64 k])) w' :=
  ⟨none, 0, 0, [], rfl, WrS.one (A := none) (n := 0) (vs := []) Wr.nil, ⟨by omega, by simp, by simp [sumN], rfl⟩, h⟩
theorem sumN_bd : ∀ (its : List It) (m : Nat), (∀ t ∈ its, t.n ≤ m) → sumN its ≤ its.length * m
  | [], m, _ => by simp [sumN]
  | t :: l, m, h => by
    have h1 := h t (by simp)
    have h2 := sumN_bd l m (fun u hu => h u (by simp [hu]))
    rw [sumN, List.length_cons, Nat.add_mul]; omega
theorem info_I64S : (Try.prog.info? 25).map (fun i => (i.zero, i.size, i.bytes)) = some (some (.slice none 0 0), 1, 24) := by kernel_rfl
theorem OwnS.rdII {w : World} {B : Nat} {e : TypeId} {A : Option Addr} {n c : Nat} {its : List It} (h : OwnS w B e 1 A n c (its.map hdI) (its.map bodyI)) : RdS w (sgII A n its) := by
  have := h.wrS.rd
  simpa [sgII] using this
theorem OwnS.wrII {w : World} {B : Nat} {e : TypeId} {A : Option Addr} {n c : Nat} {its : List It} (h : OwnS w B e 1 A n c (its.map hdI) (its.map bodyI)) : WrS w B w.heap.size (sgII A n its) := by
  have := h.wrS
  simpa [sgII] using this
/-- two elements at the end as one more -/
theorem OwnS.snocII {w : World} {B : Nat} {e : TypeId} {A : Option Addr} {n c : Nat} {its : List It} {t : It} (h : OwnS w B e 1 A n c (its.map hdI ++ [hdI t]) (its.map bodyI ++ [bodyI t])) : OwnS w B e 1 A n c ((its ++ [t]).map hdI) ((its ++ [t]).map bodyI) := by
  simpa using h
end Go.Proofs.Ytfahdgmlhinabaa
