/-
  Contracts of chapter 27 (GrowthOf): lists of words that are equal.
-/
import Derived.Test.YtmmgejnhfpfmnaaC27f
import Derived.Test.YtmmgejnhfpfmnaaEqI
import Derived.Laws.EntriesVeiled
import Derived.Test.YtmmgejnhfpfmnaaC05r
namespace Go.Proofs.Ytmmgejnhfpfmnaa
open Go.RowKit

def eqLL (a b : List (List Int)) : Bool := decide (a = b)
theorem eqLL_len {a b : List (List Int)} (h : a.length ≠ b.length) : eqLL a b = false := decide_eq_false fun e => h (by rw [e])
theorem eqLL_cons (x y : List Int) (a b : List (List Int)) : eqLL (x :: a) (y :: b) = (eqL x y && eqLL a b) := by
  unfold eqLL eqL
  by_cases h1 : x = y <;> by_cases h2 : a = b <;> simp [h1, h2]
set_option maxHeartbeats 2000000 in
theorem sLists_c (A : Option Addr) (n c : Nat) (its : List It) (A' : Option Addr) (n' c' : Nat) (js : List It) (q : Bool) (w : World) (h : RdS w (sgII A n its)) (h' : RdS w (sgII A' n' js)) (hn : n ≤ 1000000) (hn' : n' ≤ 1000000) (hi : ∀ t ∈ its, t.n ≤ 1000000000) (hq : eqLL (its.map It.xs) (js.map It.xs) = q) :
    Calls Try.prog 125 #[.slice A n c, .slice A' n' c'] w fun e w' => e = .returned (.bool q) ∧ Qt w w' := by
  have hl := RdII.len h; have hl' := RdII.len h'
  by_cases hnn : n = n'
  rotate_left
  · have e1 : ((n : Int) != (n' : Int)) = true := by simp; omega
    have HE := Lib.hid (show false = q by rw [← hq, eqLL_len (by rw [List.length_map, List.length_map, hl, hl']; exact hnn)])
    clear h h' hi hq hl hl' hnn
    go_enter Try.func125, Try.ntmps125
    go_wp2_with fail
    go_ret
    exact ⟨by rw [← HE.out]; rfl, (by first | exact Qt.refl _ | exact ⟨_, rfl⟩ | exact Qt.drewN ⟨_, rfl⟩ _)⟩
  subst hnn
  have e1 : ((n : Int) != (n : Int)) = false := by simp
  have HL := Lib.hid hl; have HL' := Lib.hid hl'
  have H := Lib.hid h; have H' := Lib.hid h'; have HI := Lib.hid hi
  have HQ := Lib.hid hq
  clear h h' hi hq hl hl'
  go_enter Try.func125, Try.ntmps125
  go_wp2_with fail
  go_loopw [5] (fun iv wr => ∃ k : Nat, k ≤ n ∧ iv = .int .i64 k ∧ Hid (eqLL ((its.map It.xs).drop k) ((js.map It.xs).drop k) = q) ∧ Qt w wr) (fun iv _ => n - (intOf iv).toNat)
  case atStart => exact ⟨0, by omega, rfl, HQ.out, (by first | exact Qt.refl _ | exact ⟨_, rfl⟩ | exact Qt.drewN ⟨_, rfl⟩ _)⟩
  case round =>
    obtain ⟨k, hk, rfl, hr, hqt⟩ := hrel
    obtain ⟨mm, rfl⟩ := hqt
    by_cases hlt : k < n
    · obtain ⟨ad, t, rfl, hab, ht, hct, hrt⟩ := RdII.at_ H.out hlt
      obtain ⟨ad', u, rfl, hab', hu, hcu, hru⟩ := RdII.at_ H'.out hlt
      have hti := HI.out t (List.mem_of_getElem? ht)
      have R := Lib.hid hrt.head; have R' := Lib.hid hru.head
      obtain ⟨b, hb⟩ : ∃ b, eqL t.xs u.xs = b := ⟨_, rfl⟩
      have HN := Lib.hid (show (b && eqLL ((its.map It.xs).drop (k + 1)) ((js.map It.xs).drop (k + 1))) = q by
        rw [← hr.out, drop_at (show (its.map It.xs)[k]? = some t.xs by rw [List.getElem?_map, ht]; rfl), drop_at (show (js.map It.xs)[k]? = some u.xs by rw [List.getElem?_map, hu]; rfl), eqLL_cons, hb])
      have HB := Lib.hid hb
      have HC := Lib.hid (fun n => l00Same_c t.A u.A t.n u.n t.c u.c t.xs u.xs (w.drewN n) (Rd.drewN R.out n) (Rd.drewN R'.out n) (by omega))
      rw [hb] at HC
      clear hr ht hu hrt hru hb
      cases b
      · have HE := Lib.hid (show false = q by rw [← HN.out]; rfl)
        clear HN
        go_wp2_with fail
        go_quiet (first | (go_at_call 82; first | exact Calls.quiet_of (HC.out _) | exact quiet_add (HC.out _)))
        go_wp2_with fail
        go_ret
        exact ⟨by rw [← HE.out]; rfl, (by first | exact Qt.refl _ | exact ⟨_, rfl⟩ | exact Qt.drewN ⟨_, rfl⟩ _)⟩
      · have HE := Lib.hid (show eqLL ((its.map It.xs).drop (k + 1)) ((js.map It.xs).drop (k + 1)) = q by rw [← HN.out]; rfl)
        clear HN
        go_wp2_with fail
        go_quiet (first | (go_at_call 82; first | exact Calls.quiet_of (HC.out _) | exact quiet_add (HC.out _)))
        go_wp2_with fail
        go_roundw
        case rel => exact ⟨k + 1, by omega, by go_num, HE.out, (by first | exact Qt.refl _ | exact ⟨_, rfl⟩ | exact Qt.drewN ⟨_, rfl⟩ _)⟩
        case measure => simp [intOf]; omega
    · have HE := Lib.hid (show true = q by rw [← hr.out, List.drop_eq_nil_of_le (by rw [List.length_map, HL.out]; omega), List.drop_eq_nil_of_le (by rw [List.length_map, HL'.out]; omega)]; rfl)
      clear hr
      go_wp2_with fail
      go_ret
      exact ⟨by rw [← HE.out]; rfl, (by first | exact Qt.refl _ | exact ⟨_, rfl⟩ | exact Qt.drewN ⟨_, rfl⟩ _)⟩
set_option maxHeartbeats 2000000 in
theorem iLists_c (A : Option Addr) (n c : Nat) (its : List It) (A' : Option Addr) (n' c' : Nat) (js : List It) (q : Bool) (w : World) (h : RdS w (sgII A n its)) (h' : RdS w (sgII A' n' js)) (hn : n ≤ 1000000) (hn' : n' ≤ 1000000) (hi : ∀ t ∈ its, t.n ≤ 1000000000) (hq : eqLL (its.map It.xs) (js.map It.xs) = q) :
    Calls Try.prog 158 #[.slice A n c, .slice A' n' c', .func (.func 134) #[] #[]] w fun e w' => e = .returned (.bool q) ∧ Qt w w' := by
  have hl := RdII.len h; have hl' := RdII.len h'
  by_cases hnn : n = n'
  rotate_left
  · have e1 : ((n : Int) != (n' : Int)) = true := by simp; omega
    have HE := Lib.hid (show false = q by rw [← hq, eqLL_len (by rw [List.length_map, List.length_map, hl, hl']; exact hnn)])
    clear h h' hi hq hl hl' hnn
    go_enter Try.func158, Try.ntmps158
    go_wp2_with fail
    go_ret
    exact ⟨by rw [← HE.out]; rfl, (by first | exact Qt.refl _ | exact ⟨_, rfl⟩ | exact Qt.drewN ⟨_, rfl⟩ _)⟩
  subst hnn
  have e1 : ((n : Int) != (n : Int)) = false := by simp
  have HL := Lib.hid hl; have HL' := Lib.hid hl'
  have H := Lib.hid h; have H' := Lib.hid h'; have HI := Lib.hid hi
  have HQ := Lib.hid hq
  clear h h' hi hq hl hl'
  go_enter Try.func158, Try.ntmps158
  go_wp2_with fail
  go_loopw [17] (fun iv wr => ∃ k : Nat, k ≤ n ∧ iv = .int .i64 k ∧ Hid (eqLL ((its.map It.xs).drop k) ((js.map It.xs).drop k) = q) ∧ Qt w wr) (fun iv _ => n - (intOf iv).toNat)
  case atStart => exact ⟨0, by omega, rfl, HQ.out, (by first | exact Qt.refl _ | exact ⟨_, rfl⟩ | exact Qt.drewN ⟨_, rfl⟩ _)⟩
  case round =>
    obtain ⟨k, hk, rfl, hr, hqt⟩ := hrel
    obtain ⟨mm, rfl⟩ := hqt
    by_cases hlt : k < n
    · obtain ⟨ad, t, rfl, hab, ht, hct, hrt⟩ := RdII.at_ H.out hlt
      obtain ⟨ad', u, rfl, hab', hu, hcu, hru⟩ := RdII.at_ H'.out hlt
      have hti := HI.out t (List.mem_of_getElem? ht)
      have R := Lib.hid hrt.head; have R' := Lib.hid hru.head
      obtain ⟨b, hb⟩ : ∃ b, eqL t.xs u.xs = b := ⟨_, rfl⟩
      have HN := Lib.hid (show (b && eqLL ((its.map It.xs).drop (k + 1)) ((js.map It.xs).drop (k + 1))) = q by
        rw [← hr.out, drop_at (show (its.map It.xs)[k]? = some t.xs by rw [List.getElem?_map, ht]; rfl), drop_at (show (js.map It.xs)[k]? = some u.xs by rw [List.getElem?_map, hu]; rfl), eqLL_cons, hb])
      have HB := Lib.hid hb
      have HC := Lib.hid (fun n => equalI_c t.A u.A t.n u.n t.c u.c t.xs u.xs (w.drewN n) (Rd.drewN R.out n) (Rd.drewN R'.out n) (by omega))
      rw [hb] at HC
      clear hr ht hu hrt hru hb
      cases b
      · have HE := Lib.hid (show false = q by rw [← HN.out]; rfl)
        clear HN
        go_wp2_with fail
        refine (HC.out _).mono ?_
        rintro e w1 ⟨rfl, ⟨m1, rfl⟩⟩
        go_wp2_with fail
        go_ret
        exact ⟨by rw [← HE.out]; rfl, (by first | exact Qt.refl _ | exact ⟨_, rfl⟩ | exact Qt.drewN ⟨_, rfl⟩ _)⟩
      · have HE := Lib.hid (show eqLL ((its.map It.xs).drop (k + 1)) ((js.map It.xs).drop (k + 1)) = q by rw [← HN.out]; rfl)
        clear HN
        go_wp2_with fail
        refine (HC.out _).mono ?_
        rintro e w1 ⟨rfl, ⟨m1, rfl⟩⟩
        go_wp2_with fail
        go_roundw
        case rel => exact ⟨k + 1, by omega, by go_num, HE.out, (by first | exact Qt.refl _ | exact ⟨_, rfl⟩ | exact Qt.drewN ⟨_, rfl⟩ _)⟩
        case measure => simp [intOf]; omega
    · have HE := Lib.hid (show true = q by rw [← hr.out, List.drop_eq_nil_of_le (by rw [List.length_map, HL.out]; omega), List.drop_eq_nil_of_le (by rw [List.length_map, HL'.out]; omega)]; rfl)
      clear hr
      go_wp2_with fail
      go_ret
      exact ⟨by rw [← HE.out]; rfl, (by first | exact Qt.refl _ | exact ⟨_, rfl⟩ | exact Qt.drewN ⟨_, rfl⟩ _)⟩
/-- the same but for the offsets -/
def shapeB (s hd a : Int) (ws rs : List (List Int)) (s' hd' a' : Int) (ws' rs' : List (List Int)) : Bool := decide (s = s') && (decide (hd = hd') && (decide (a = a') && (eqLL ws ws' && eqLL rs rs')))
def diffL : List Int → List Int → List Int
  | x :: a, y :: b => (y - x) :: diffL a b
  | _, _ => []
def posL (l : List Int) : Bool := l.all (fun d => decide (0 ≤ d))
theorem diffL_at {a b : List Int} {k : Nat} {x y : Int} (hx : a[k]? = some x) (hy : b[k]? = some y) : diffL (a.drop k) (b.drop k) = (y - x) :: diffL (a.drop (k + 1)) (b.drop (k + 1)) := by
  rw [drop_at hx, drop_at hy, diffL]
theorem diffL_end {a b : List Int} {k : Nat} (h : a.length ≤ k) : diffL (a.drop k) (b.drop k) = [] := by
  rw [List.drop_eq_nil_of_le h]; rfl
/-- what the growth is: the differences, or none -/
def grwL (sh : Bool) (os os' : List Int) : List Int × Bool := if sh && posL (diffL os os') then (diffL os os', true) else ([], false)
/-- numbers of the call's own and a flag -/
def GrOut (R : List Int × Bool) (w : World) (e : Ending) (w' : World) : Prop :=
  ∃ A n c, e = .returned (.tuple #[.slice A n c, .bool R.2]) ∧ n ≤ 1000 ∧ Wr w' w.heap.size w'.heap.size A n (R.1.map i64) ∧ Below w.heap.size w w'
set_option maxHeartbeats 4000000 in
set_option maxRecDepth 100000 in
theorem l27Growth_c (ga gb : Nat) (s hd a : Int) (A0 : Option Addr) (n0 c0 : Nat) (its0 : List It) (A1 : Option Addr) (n1 c1 : Nat) (its1 : List It) (A2 : Option Addr) (n2 c2 : Nat) (os : List Int) (s' hd' a' : Int) (B0 : Option Addr) (m0 d0 : Nat) (js0 : List It) (B1 : Option Addr) (m1 d1 : Nat) (js1 : List It) (B2 : Option Addr) (m2 d2 : Nat) (os' : List Int) (w : World)
    (h : FormP w ga s hd a A0 n0 c0 its0 A1 n1 c1 its1 A2 n2 c2 os) (h' : FormP w gb s' hd' a' B0 m0 d0 js0 B1 m1 d1 js1 B2 m2 d2 os') (hn0 : n0 ≤ 1000) (hm0 : m0 ≤ 1000) (hn1 : n1 ≤ 1000) (hm1 : m1 ≤ 1000) (hn2 : n2 ≤ 1000) (hm2 : eqLL (its1.map It.xs) (js1.map It.xs) = true → m2 = n2) (hi0 : ∀ t ∈ its0, t.n ≤ 1000000000) (hi1 : ∀ t ∈ its1, t.n ≤ 1000000000) (ho : ∀ x ∈ os, -10000 ≤ x ∧ x ≤ 10000) (ho' : ∀ x ∈ os', -10000 ≤ x ∧ x ≤ 10000) :
    Calls Try.prog 76 #[.pointer (some ⟨ga, 0, none⟩), .pointer (some ⟨gb, 0, none⟩)] w (GrOut (grwL (shapeB s hd a (its0.map It.xs) (its1.map It.xs) s' hd' a' (js0.map It.xs) (js1.map It.xs)) os os') w) := by
  have k0 := h.d0; have k1 := h.d1; have k2 := h.d2; have k3 := h.d3; have k4 := h.d4; have k5 := h.d5
  have q0 := h'.d0; have q1 := h'.d1; have q2 := h'.d2; have q3 := h'.d3; have q4 := h'.d4; have q5 := h'.d5
  obtain ⟨b1, hb1⟩ : ∃ b, eqLL (its0.map It.xs) (js0.map It.xs) = b := ⟨_, rfl⟩
  obtain ⟨b2, hb2⟩ : ∃ b, eqLL (its1.map It.xs) (js1.map It.xs) = b := ⟨_, rfl⟩
  have HC1 := Lib.hid (fun n => sLists_c A0 n0 c0 its0 B0 m0 d0 js0 b1 (w.drewN n) (h.r0.drewN n) (h'.r0.drewN n) (by omega) (by omega) hi0 hb1)
  have HC2 := Lib.hid (fun n => sLists_c A1 n1 c1 its1 B1 m1 d1 js1 b2 (w.drewN n) (h.r1.drewN n) (h'.r1.drewN n) (by omega) (by omega) hi1 hb2)
  obtain ⟨R, hR⟩ : ∃ R, grwL (shapeB s hd a (its0.map It.xs) (its1.map It.xs) s' hd' a' (js0.map It.xs) (js1.map It.xs)) os os' = R := ⟨_, rfl⟩
  rw [hR]
  have HH := Lib.hid h; have HH' := Lib.hid h'; have HO := Lib.hid ho; have HO' := Lib.hid ho'
  have HR := Lib.hid (show grwL (decide (s = s') && (decide (hd = hd') && (decide (a = a') && (b1 && b2)))) os os' = R by rw [← hR, shapeB, hb1, hb2])
  have HM2 := Lib.hid (show b2 = true → m2 = n2 by rw [← hb2]; exact hm2)
  clear h h' hi0 hi1 ho ho' hb1 hb2 hR hm2
  have bad : ∀ w' : World, R = ([], false) → Below w.heap.size w w' → GrOut R w (.returned (.tuple #[.slice none 0 0, .bool false])) w' := fun w' e hb => ⟨none, 0, 0, by rw [e], by omega, by rw [e]; exact Wr.nil, hb⟩
  have BAD := Lib.hid bad
  clear bad
  go_enter Try.func76, Try.ntmps76
  by_cases e1 : s = s'
  rotate_left
  · have g1 : (s != s') = true := by simp [e1]
    have HE := Lib.hid (show R = ([], false) by rw [← HR.out]; simp [grwL, e1])
    clear e1 HR
    go_wp2_with fail
    go_quiet (fail)
    go_wp2_with fail
    go_ret2
    exact BAD.out _ HE.out (by first | exact below_size | exact below_drewN below_size _ | exact below_drewN (below_drewN below_size _) _)
  have g1 : (s != s') = false := by simp [e1]
  by_cases e2 : hd = hd'
  rotate_left
  · have g2 : (hd != hd') = true := by simp [e2]
    have HE := Lib.hid (show R = ([], false) by rw [← HR.out]; simp [grwL, e2])
    clear e1 e2 HR
    go_wp2_with fail
    go_quiet (fail)
    go_wp2_with fail
    go_ret2
    exact BAD.out _ HE.out (by first | exact below_size | exact below_drewN below_size _ | exact below_drewN (below_drewN below_size _) _)
  have g2 : (hd != hd') = false := by simp [e2]
  by_cases e3 : a = a'
  rotate_left
  · have g3 : (a != a') = true := by simp [e3]
    have HE := Lib.hid (show R = ([], false) by rw [← HR.out]; simp [grwL, e3])
    clear e1 e2 e3 HR
    go_wp2_with fail
    go_quiet (fail)
    go_wp2_with fail
    go_ret2
    exact BAD.out _ HE.out (by first | exact below_size | exact below_drewN below_size _ | exact below_drewN (below_drewN below_size _) _)
  have g3 : (a != a') = false := by simp [e3]
  have HR2 := Lib.hid (show grwL (b1 && b2) os os' = R by rw [← HR.out]; simp [e1, e2, e3])
  clear e1 e2 e3 HR
  cases b1
  · have HE := Lib.hid (show R = ([], false) by rw [← HR2.out]; rfl)
    clear HR2
    go_wp2_with fail
    go_quiet (first | (go_at_call 125; first | exact Calls.quiet_of (HC1.out _) | exact quiet_add (HC1.out _)))
    go_wp2_with fail
    go_ret2
    exact BAD.out _ HE.out (by first | exact below_size | exact below_drewN below_size _ | exact below_drewN (below_drewN below_size _) _)
  cases b2
  · have HE := Lib.hid (show R = ([], false) by rw [← HR2.out]; rfl)
    clear HR2
    go_wp2_with fail
    go_quiet (first | (go_at_call 125; first | (with_reducible exact Calls.quiet_of (HC1.out _)) | (with_reducible exact quiet_add (HC1.out _)) | (with_reducible exact Calls.quiet_of (HC2.out _)) | (with_reducible exact quiet_add (HC2.out _))))
    go_wp2_with fail
    go_ret2
    exact BAD.out _ HE.out (by first | exact below_size | exact below_drewN below_size _ | exact below_drewN (below_drewN below_size _) _)
  have hm2 := HM2.out rfl
  subst hm2
  go_wp2_with fail
  go_quiet (first | (go_at_call 125; first | (with_reducible exact Calls.quiet_of (HC1.out _)) | (with_reducible exact quiet_add (HC1.out _)) | (with_reducible exact Calls.quiet_of (HC2.out _)) | (with_reducible exact quiet_add (HC2.out _))))
  obtain ⟨W, hW⟩ : ∃ W, w.drewN nq = W := ⟨_, rfl⟩
  have BW := Lib.hid (show Below w.heap.size w W by rw [← hW]; exact below_drewN below_size _)
  have HW := Lib.hid (HH.out.below BW.out); have HW' := Lib.hid (HH'.out.below BW.out)
  rw [hW]
  have hzw : w.heap.size ≤ W.heap.size := BW.out.size
  clear hW k0 k1 k2 k3 k4 k5 q0 q1 q2 q3 q4 q5 HC1 HC2
  have k5 := HW.out.d5; have q5 := HW'.out.d5
  have HLo := Lib.hid HW.out.r2.len; have HLo' := Lib.hid HW'.out.r2.len
  go_wp2_with fail
  go_loopw [6, 7] (fun ov iv wr => ∃ (k : Nat) (O : Option Addr) (oc : Nat) (acc : List Int), k ≤ m2 ∧ iv = .int .i64 k ∧ ov = .slice O k oc ∧ Hid (diffL os os' = acc ++ diffL (os.drop k) (os'.drop k)) ∧ Hid (∀ d ∈ acc, 0 ≤ d) ∧ Hid (Own wr W.heap.size 2 1 O k oc (acc.map i64)) ∧ Below W.heap.size W wr) (fun _ iv _ => m2 - (intOf iv).toNat)
  case atStart => exact ⟨0, _, 0, [], by omega, rfl, rfl, rfl, (fun d hd => by cases hd), Own.lit (Nat.le_refl _), below_size.alloc (Nat.le_refl _) _⟩
  case round =>
    obtain ⟨k, O, oc, acc, hk, rfl, rfl, hx, hpos, hO, hb⟩ := hrel
    have HB := Lib.hid hb
    have hwz := hb.size
    have k5 := (HW.out.below hb).d5; have q5 := (HW'.out.below hb).d5
    by_cases hlt : k < m2
    · obtain ⟨ad, x, rfl, hab, hx1, hcx⟩ := (HW.out.below hb).r2.at_ (k := k) hlt
      obtain ⟨ad', y, rfl, hab', hy1, hcy⟩ := (HW'.out.below hb).r2.at_ (k := k) hlt
      have hbx := HO.out x (List.mem_of_getElem? hx1); have hby := HO'.out y (List.mem_of_getElem? hy1)
      have v1 : IntKind.i64.wrap (y - x) = y - x := IntWalk.i64_in _ (by omega)
      have HX := Lib.hid (show diffL os os' = acc ++ (y - x) :: diffL (os.drop (k + 1)) (os'.drop (k + 1)) by rw [hx.out, diffL_at hx1 hy1])
      clear hx hx1 hy1 hb
      by_cases hneg : y - x < 0
      · have g5 : decide (y - x < 0) = true := decide_eq_true hneg
        have HE := Lib.hid (show R = ([], false) by
          rw [← HR2.out, grwL, HX.out, show posL (acc ++ (y - x) :: diffL (os.drop (k + 1)) (os'.drop (k + 1))) = false by
            unfold posL; rw [List.all_append, List.all_cons, show decide (0 ≤ y - x) = false from decide_eq_false (by omega)]; simp]; rfl)
        clear hneg
        go_wp2_with fail
        go_quiet (fail)
        go_wp2_with fail
        go_ret2
        exact BAD.out _ HE.out (below_drewN (BW.out.trans (HB.out.mono hzw)) _)
      · have g5 : decide (y - x < 0) = false := decide_eq_false hneg
        have HP := Lib.hid (show ∀ d ∈ acc ++ [y - x], 0 ≤ d from fun d hd => by
          rcases List.mem_append.1 hd with hd | hd
          · exact hpos.out d hd
          · rw [List.mem_singleton] at hd; omega)
        clear hneg
        go_wp2_with fail
        go_quiet (fail)
        obtain ⟨w2, hw2⟩ : ∃ w2, wr.drewN nq = w2 := ⟨_, rfl⟩
        have B2 := Lib.hid (show Below wr.heap.size wr w2 by rw [← hw2]; exact below_drewN below_size _)
        have hz2 := B2.out.size
        rw [hw2]
        clear hw2 hcx hcy k5 q5
        go_wp2_with (at_builtin; refine wp_app1 (by rfl) _ _ 25 2 (.int .i64 0) 8 (by rfl) Try.underlying25 info_i64 rfl W.heap.size O k oc (acc.map i64) (by rfl) (by exact (hO.out.keep B2.out).alloc _) w2.heap.size (i64 (y - x)) (by rfl) (by exact new_cell _ _ _ 0) rfl (by omega) (by omega) (by simp; omega) ?_; intro g' cap w3 own3 hb3 hk3 hg3 hz3)
        have O3 := Lib.hid own3
        have B3 := Lib.hid ((HB.out.trans (B2.out.mono (by omega))).trans (((below_size.alloc (Nat.le_refl _) (.cells #[i64 (y - x)] 2)).mono (by omega)).trans hb3))
        clear own3 hb3 hk3 hg3
        go_wp2_with fail
        go_roundw
        case rel => exact ⟨k + 1, some ⟨g', 0, none⟩, cap, acc ++ [y - x], by omega, by go_num, rfl, by unfold Hid; rw [List.append_assoc]; exact HX.out, HP.out, by unfold Hid; rw [List.map_append]; exact O3.out, B3.out⟩
        case measure => simp [intOf]; omega
    · obtain rfl : k = m2 := by omega
      have HE := Lib.hid (show R = (acc, true) by
        rw [← HR2.out, grwL, hx.out, diffL_end (by rw [HLo.out]; exact Nat.le_refl _), List.append_nil, show posL acc = true by unfold posL; rw [List.all_eq_true]; intro d hd; exact decide_eq_true (hpos.out d hd)]; rfl)
      clear hx hb
      go_wp2_with fail
      go_ret2
      rw [HE.out]
      have h1 := hO.out.wr
      exact ⟨O, k, oc, rfl, by omega, h1.wider hzw (Nat.le_refl _), BW.out.trans (HB.out.mono hzw)⟩

set_option maxHeartbeats 4000000 in
set_option maxRecDepth 100000 in
theorem sameShape_c (ga gb : Nat) (s hd a : Int) (A0 : Option Addr) (n0 c0 : Nat) (its0 : List It) (A1 : Option Addr) (n1 c1 : Nat) (its1 : List It) (A2 : Option Addr) (n2 c2 : Nat) (os : List Int) (s' hd' a' : Int) (B0 : Option Addr) (m0 d0 : Nat) (js0 : List It) (B1 : Option Addr) (m1 d1 : Nat) (js1 : List It) (B2 : Option Addr) (m2 d2 : Nat) (os' : List Int) (w : World)
    (h : FormP w ga s hd a A0 n0 c0 its0 A1 n1 c1 its1 A2 n2 c2 os) (h' : FormP w gb s' hd' a' B0 m0 d0 js0 B1 m1 d1 js1 B2 m2 d2 os') (hn0 : n0 ≤ 1000) (hm0 : m0 ≤ 1000) (hn1 : n1 ≤ 1000) (hm1 : m1 ≤ 1000) (hi0 : ∀ t ∈ its0, t.n ≤ 1000000000) (hi1 : ∀ t ∈ its1, t.n ≤ 1000000000) :
    Calls Try.prog 126 #[.pointer (some ⟨ga, 0, none⟩), .pointer (some ⟨gb, 0, none⟩)] w fun e w' => e = .returned (.bool (shapeB s hd a (its0.map It.xs) (its1.map It.xs) s' hd' a' (js0.map It.xs) (js1.map It.xs))) ∧ Qt w w' := by
  have k0 := h.d0; have k1 := h.d1; have k2 := h.d2; have k3 := h.d3; have k4 := h.d4
  have q0 := h'.d0; have q1 := h'.d1; have q2 := h'.d2; have q3 := h'.d3; have q4 := h'.d4
  obtain ⟨b1, hb1⟩ : ∃ b, eqLL (its0.map It.xs) (js0.map It.xs) = b := ⟨_, rfl⟩
  obtain ⟨b2, hb2⟩ : ∃ b, eqLL (its1.map It.xs) (js1.map It.xs) = b := ⟨_, rfl⟩
  have HC1 := Lib.hid (fun n => iLists_c A0 n0 c0 its0 B0 m0 d0 js0 b1 (w.drewN n) (h.r0.drewN n) (h'.r0.drewN n) (by omega) (by omega) hi0 hb1)
  have HC2 := Lib.hid (fun n => iLists_c A1 n1 c1 its1 B1 m1 d1 js1 b2 (w.drewN n) (h.r1.drewN n) (h'.r1.drewN n) (by omega) (by omega) hi1 hb2)
  obtain ⟨R, hR⟩ : ∃ R, shapeB s hd a (its0.map It.xs) (its1.map It.xs) s' hd' a' (js0.map It.xs) (js1.map It.xs) = R := ⟨_, rfl⟩
  rw [hR]
  have HR := Lib.hid (show (decide (s = s') && (decide (hd = hd') && (decide (a = a') && (b1 && b2)))) = R by rw [← hR, shapeB, hb1, hb2])
  clear h h' hi0 hi1 hb1 hb2 hR
  go_enter Try.func126, Try.ntmps126
  by_cases e1 : s = s'
  rotate_left
  · have g1 : (s == s') = false := by simp [e1]
    have HE := Lib.hid (show false = R by rw [← HR.out]; simp [e1])
    clear e1 HR
    go_wp2_with fail
    go_quiet (fail)
    go_wp2_with fail
    go_ret
    exact ⟨by rw [← HE.out]; rfl, (by first | exact Qt.refl _ | exact ⟨_, rfl⟩ | exact Qt.drewN ⟨_, rfl⟩ _)⟩
  have g1 : (s == s') = true := by simp [e1]
  by_cases e2 : hd = hd'
  rotate_left
  · have g2 : (hd == hd') = false := by simp [e2]
    have HE := Lib.hid (show false = R by rw [← HR.out]; simp [e2])
    clear e1 e2 HR
    go_wp2_with fail
    go_quiet (fail)
    go_wp2_with fail
    go_ret
    exact ⟨by rw [← HE.out]; rfl, (by first | exact Qt.refl _ | exact ⟨_, rfl⟩ | exact Qt.drewN ⟨_, rfl⟩ _)⟩
  have g2 : (hd == hd') = true := by simp [e2]
  by_cases e3 : a = a'
  rotate_left
  · have g3 : (a == a') = false := by simp [e3]
    have HE := Lib.hid (show false = R by rw [← HR.out]; simp [e3])
    clear e1 e2 e3 HR
    go_wp2_with fail
    go_quiet (fail)
    go_wp2_with fail
    go_ret
    exact ⟨by rw [← HE.out]; rfl, (by first | exact Qt.refl _ | exact ⟨_, rfl⟩ | exact Qt.drewN ⟨_, rfl⟩ _)⟩
  have g3 : (a == a') = true := by simp [e3]
  have HR2 := Lib.hid (show (b1 && b2) = R by rw [← HR.out]; simp [e1, e2, e3])
  clear e1 e2 e3 HR
  cases b1
  · have HE := Lib.hid (show false = R by rw [← HR2.out]; rfl)
    clear HR2
    go_wp2_with fail
    go_quiet (first | (go_at_call 158; first | (with_reducible exact Calls.quiet_of (HC1.out _)) | (with_reducible exact quiet_add (HC1.out _)) | (with_reducible exact Calls.quiet_of (HC1.out _)) | (with_reducible exact quiet_add (HC1.out _))))
    go_wp2_with fail
    go_ret
    exact ⟨by rw [← HE.out]; rfl, (by first | exact Qt.refl _ | exact ⟨_, rfl⟩ | exact Qt.drewN ⟨_, rfl⟩ _)⟩
  have HE := Lib.hid (show b2 = R by rw [← HR2.out]; rfl)
  clear HR2
  cases b2
  · go_wp2_with fail
    go_quiet (first | (go_at_call 158; first | (with_reducible exact Calls.quiet_of (HC1.out _)) | (with_reducible exact quiet_add (HC1.out _)) | (with_reducible exact Calls.quiet_of (HC2.out _)) | (with_reducible exact quiet_add (HC2.out _))))
    go_wp2_with fail
    go_ret
    exact ⟨by rw [← HE.out]; rfl, (by first | exact Qt.refl _ | exact ⟨_, rfl⟩ | exact Qt.drewN ⟨_, rfl⟩ _)⟩
  · go_wp2_with fail
    go_quiet (first | (go_at_call 158; first | (with_reducible exact Calls.quiet_of (HC1.out _)) | (with_reducible exact quiet_add (HC1.out _)) | (with_reducible exact Calls.quiet_of (HC2.out _)) | (with_reducible exact quiet_add (HC2.out _))))
    go_wp2_with fail
    go_ret
    exact ⟨by rw [← HE.out]; rfl, (by first | exact Qt.refl _ | exact ⟨_, rfl⟩ | exact Qt.drewN ⟨_, rfl⟩ _)⟩
end Go.Proofs.Ytmmgejnhfpfmnaa
