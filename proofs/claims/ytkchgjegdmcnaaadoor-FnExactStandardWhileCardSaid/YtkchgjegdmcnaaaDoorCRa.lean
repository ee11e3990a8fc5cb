/-
  Reading while programs: the reference's reader of expressions (l01Digit, l22ReadExpr).
-/
import Derived.Test.YtkchgjegdmcnaaaDoorPRd
import Derived.Test.YtkchgjegdmcnaaaDoorAppC
import Derived.Test.YtkchgjegdmcnaaaDoorCVa
namespace Go.Proofs.YtkchgjegdmcnaaaDoor
open Go.RowKit

theorem bs_at {s : List UInt8} {k : Nat} {c : UInt8} (h : s[k]? = some c) (hk : k < (bs s).size) : (bs s)[k] = c := by
  obtain ⟨hl, rfl⟩ := List.getElem?_eq_some_iff.1 h
  show s.toArray[k]'(by simpa using hl) = s[k]
  exact List.getElem_toArray _
theorem run_ixS {k : Nat} {s : List UInt8} {c : UInt8} {x : Int} (h : s[k]? = some c) (hx : (c.toNat : Int) = x) (w : World) : (Instr.index 9 (.string (bs s)) (.int .i64 (k : Int))).run Tryd.prog w = .ok (.int .u8 x) w := by
  have hk : k < (bs s).size := by rw [bs_size]; exact (List.getElem?_eq_some_iff.1 h).1
  rw [run_index_string w 9 (bs s) .i64 (k : Int) Tryd.underlying9, dif_pos ⟨by omega, by omega⟩]
  have e : (bs s)[(k : Int).toNat] = c := bs_at h hk
  rw [e, hx]
theorem u8_eq {c : UInt8} {d : Nat} (hd : d < 256) : c = UInt8.ofNat d ↔ (c.toNat : Int) = d := by
  constructor
  · rintro rfl; rw [UInt8.toNat_ofNat']; omega
  · intro h; apply UInt8.toNat_inj.1; rw [UInt8.toNat_ofNat']; omega
theorem l01Digit_c (x : Int) (q : Bool) (w : World) (hq : (decide (48 ≤ x) && decide (x ≤ 57)) = q) : Calls Tryd.prog 60 #[.int .u8 x] w fun e w' => e = .returned (.bool q) ∧ w = w' := by
  have HQ := Lib.hid hq
  clear hq
  by_cases h0 : x < 48
  · have g0 : decide ((48 : Int) ≤ x) = false := by simpa using h0
    have HF := Lib.hid (show false = q by rw [← HQ.out, g0]; rfl)
    go_enter Tryd.func60, Tryd.ntmps60
    go_wp2_with fail
    go_ret
    exact ⟨by rw [← HF.out]; rfl, rfl⟩
  · have g0 : decide ((48 : Int) ≤ x) = true := by simpa using h0
    by_cases h1 : x ≤ 57
    · have g1 : decide (x ≤ (57 : Int)) = true := by simpa using h1
      have HF := Lib.hid (show true = q by rw [← HQ.out, g0, g1]; rfl)
      clear h0 h1
      go_enter Tryd.func60, Tryd.ntmps60
      go_wp2_with fail
      go_ret
      exact ⟨by rw [← HF.out]; rfl, rfl⟩
    · have g1 : decide (x ≤ (57 : Int)) = false := by simpa using h1
      have HF := Lib.hid (show false = q by rw [← HQ.out, g1, Bool.and_false])
      clear h0 h1
      go_enter Tryd.func60, Tryd.ntmps60
      go_wp2_with fail
      go_ret
      exact ⟨by rw [← HF.out]; rfl, rfl⟩
/-- an expression that was read, the offset behind it, whether it is one -/
def RxOut (r : RdE) (w : World) (e : Ending) (w' : World) : Prop := ∃ A n c, e = .returned (.tuple #[.slice A n c, .int .i64 (r.2.1 : Int), .bool r.2.2]) ∧ Wr w' w.heap.size w'.heap.size A (n * 2) (r.1.flatMap enc2) ∧ n ≤ c ∧ Below w.heap.size w w'
theorem RxOut.bad {w w' : World} {k : Nat} (h : Below w.heap.size w w') : RxOut ([], k, false) w (.returned (.tuple #[.slice none 0 0, .int .i64 (k : Int), .bool false])) w' := ⟨none, 0, 0, rfl, Wr.nil, Nat.le_refl _, h⟩
theorem RxOut.leaf {w : World} {a b z : Int} {k : Nat} {T : TypeId} (hz : z = (k : Int)) : RxOut ([(a, b)], k, true) w (.returned (.tuple #[.slice (some ⟨w.heap.size, 0, none⟩) 1 1, .int .i64 z, .bool true])) (w.alloc (.cells #[i64 a, i64 b] T)) := by
  subst hz
  exact ⟨_, 1, 1, rfl, (Blk.new w T #[i64 a, i64 b]).wr (Nat.le_refl _) (by simp) rfl (by simp), Nat.le_refl _, below_size.alloc (Nat.le_refl _) _⟩
theorem pairS_no1 {s : List UInt8} {xs : List (Int × Int)} {q k : Nat} {ok : Bool} {g : Nat → RdE} (h : ok = false ∨ s.length ≤ q) : pairS s (xs, q, ok) g k = ([], k, false) := by
  rw [pairS, if_neg]
  rintro ⟨h1, h2⟩
  simp only at h1 h2
  rcases h with h | h
  · rw [h] at h1; cases h1
  · omega
theorem pairS_no2 {s : List UInt8} {xs ys : List (Int × Int)} {q z k : Nat} {ok : Bool} {g : Nat → RdE} (hq : q < s.length) (hg : g q = (ys, z, ok)) (h : ok = false ∨ s.length ≤ z) : pairS s (xs, q, true) g k = ([], k, false) := by
  rw [pairS, if_pos ⟨rfl, hq⟩, if_neg]
  simp only [hg]
  rintro ⟨h1, h2⟩
  rcases h with h | h
  · rw [h] at h1; cases h1
  · omega
theorem pairS_yes {s : List UInt8} {xs ys : List (Int × Int)} {q z k : Nat} {g : Nat → RdE} {c : UInt8} (hc : s[q]? = some c) (hg : g q = (ys, z, true)) (hz : z < s.length) : pairS s (xs, q, true) g k = (((if c = 63 then 5 else 2), 0) :: (xs ++ ys), z + 1, true) := by
  have hq := (List.getElem?_eq_some_iff.1 hc).1
  rw [pairS, if_pos ⟨rfl, hq⟩, if_pos (by simp only [hg]; exact ⟨trivial, hz⟩)]
  simp only [hg, hc, Option.some.injEq]
set_option maxHeartbeats 4000000 in
set_option maxRecDepth 100000 in
theorem l22ReadExpr_c (s : List UInt8) (hs : s.length ≤ 1048576) (d : Nat) : ∀ (k : Nat) (w : World), d ≤ 40 → k ≤ 2000000 → Calls Tryd.prog 43 #[.string (bs s), .int .i64 (k : Int), .int .i64 (d : Int)] w (RxOut (sxE s d k) w) := by
  induction d with
  | zero =>
    intro k w _ hk
    obtain ⟨n, hn⟩ : ∃ n, (bs s).size = n := ⟨_, rfl⟩
    have hn2 : n ≤ 1048576 := by rw [← hn, bs_size]; exact hs
    rw [sxE_none (.inr rfl)]
    by_cases h : n ≤ k
    · go_enter Tryd.func43, Tryd.ntmps43
      go_wp2_with fail
      go_ret3
      exact RxOut.bad below_size
    · go_enter Tryd.func43, Tryd.ntmps43
      go_wp2_with fail
      go_ret3
      exact RxOut.bad below_size
  | succ d IH =>
    intro k w hd hk
    obtain ⟨n, hn⟩ : ∃ n, (bs s).size = n := ⟨_, rfl⟩
    have hln : s.length = n := by rw [← hn, bs_size]
    have HLN := Lib.hid hln
    have hn2 : n ≤ 1048576 := by rw [← hln]; exact hs
    obtain ⟨R, hR⟩ : ∃ R, sxE s (d + 1) k = R := ⟨_, rfl⟩
    rw [hR]
    have HIH := Lib.hid IH; have HR := Lib.hid hR
    clear IH hR hln
    by_cases h : n ≤ k
    · have HG := Lib.hid (show ([], k, false) = R by rw [← HR.out, sxE_none (.inl (List.getElem?_eq_none (by rw [HLN.out]; exact h)))])
      go_enter Tryd.func43, Tryd.ntmps43
      go_wp2_with fail
      go_ret3
      rw [← HG.out]
      exact RxOut.bad below_size
    obtain ⟨c, hc⟩ : ∃ c, s[k]? = some c := ⟨_, List.getElem?_eq_getElem (by rw [HLN.out]; omega)⟩
    obtain ⟨x, hx⟩ : ∃ x : Int, (c.toNat : Int) = x := ⟨_, rfl⟩
    have hx0 : 0 ≤ x ∧ x ≤ 255 := by have := UInt8.toNat_lt c; omega
    have hix := fun w => run_ixS hc hx w
    have HS := Lib.hid (show (if 48 ≤ c.toNat ∧ c.toNat ≤ 57 then ([(1, (c.toNat : Int) - 48)], k + 1, true)
      else if c = 110 then ([(0, 0)], k + 1, true)
      else if c = 104 then ((3, 0) :: (sxE s d (k + 1)).1, (sxE s d (k + 1)).2)
      else if c = 116 then ((4, 0) :: (sxE s d (k + 1)).1, (sxE s d (k + 1)).2)
      else if c = 40 then pairS s (sxE s d (k + 1)) (fun q => sxE s d (q + 1)) k
      else ([], k, false)) = R by rw [← HR.out, sxE_some hc])
    have HX := Lib.hid hx
    have HEQ := Lib.hid (show (c = 110 ↔ x = 110) ∧ (c = 104 ↔ x = 104) ∧ (c = 116 ↔ x = 116) ∧ (c = 40 ↔ x = 40) by rw [← hx]; exact ⟨u8_eq (d := 110) (by omega), u8_eq (d := 104) (by omega), u8_eq (d := 116) (by omega), u8_eq (d := 40) (by omega)⟩)
    clear hc hx HR
    by_cases hdg : 48 ≤ x ∧ x ≤ 57
    · have HG := Lib.hid (show ([(1, x - 48)], k + 1, true) = R by rw [← HS.out, if_pos (by have := HX.out; omega), HX.out])
      have hq : (decide (48 ≤ x) && decide (x ≤ 57)) = true := by rw [decide_eq_true hdg.1, decide_eq_true hdg.2]; rfl
      have hq := Lib.hid hq
      have v1 : IntKind.u8.wrap (x - 48) = x - 48 := by have e := IntWalk.u8_in (x - 48) (by omega); exact e
      have v2 : IntKind.i64.wrap (x - 48) = x - 48 := IntWalk.i64_in _ (by omega)
      clear HS HEQ
      go_enter Tryd.func43, Tryd.ntmps43
      go_wp2_with (go_at_call 60; refine (l01Digit_c x true _ hq.out).mono ?_; rintro e w' ⟨rfl, rfl⟩)
      go_ret3
      rw [← HG.out]
      exact RxOut.leaf (by omega)
    have hq : (decide (48 ≤ x) && decide (x ≤ 57)) = false := by rw [Bool.and_eq_false_iff, decide_eq_false_iff_not, decide_eq_false_iff_not]; omega
    have HQ := Lib.hid hq
    have HS := Lib.hid (show (if c = 110 then ([(0, 0)], k + 1, true)
      else if c = 104 then ((3, 0) :: (sxE s d (k + 1)).1, (sxE s d (k + 1)).2)
      else if c = 116 then ((4, 0) :: (sxE s d (k + 1)).1, (sxE s d (k + 1)).2)
      else if c = 40 then pairS s (sxE s d (k + 1)) (fun q => sxE s d (q + 1)) k
      else ([], k, false)) = R by rw [← HS.out, if_neg (show ¬ (48 ≤ c.toNat ∧ c.toNat ≤ 57) by have := HX.out; omega)])
    clear hq hdg
    have HCALL := Lib.hid (show ∀ (k : Nat) (ki di : Int) (w : World), k ≤ 2000000 → ki = k → di = d → Calls Tryd.prog 43 #[.string (bs s), .int .i64 ki, .int .i64 di] w (RxOut (sxE s d k) w) from fun k ki di w hk h1 h2 => by
      subst h1; subst h2; exact HIH.out k w (by omega) hk)
    clear HIH
    by_cases hn1 : x = 110
    · subst hn1
      have HG := Lib.hid (show ([(0, 0)], k + 1, true) = R by rw [← HS.out, if_pos (HEQ.out.1.2 rfl)])
      clear HS HEQ
      go_enter Tryd.func43, Tryd.ntmps43
      go_wp2_with (go_at_call 60; refine (l01Digit_c 110 false _ HQ.out).mono ?_; rintro e w' ⟨rfl, rfl⟩)
      go_ret3
      rw [← HG.out]
      exact RxOut.leaf (by omega)
    have g1 : (x == 110) = false := by simpa using hn1
    have HS := Lib.hid (show (if c = 104 then ((3, 0) :: (sxE s d (k + 1)).1, (sxE s d (k + 1)).2)
      else if c = 116 then ((4, 0) :: (sxE s d (k + 1)).1, (sxE s d (k + 1)).2)
      else if c = 40 then pairS s (sxE s d (k + 1)) (fun q => sxE s d (q + 1)) k
      else ([], k, false)) = R by rw [← HS.out, if_neg (show ¬ c = 110 from fun e => hn1 (HEQ.out.1.1 e))])
    clear hn1
    have v1 : IntKind.i64.wrap ((d + 1 : Nat) - 1 : Int) = (d : Int) := by rw [IntWalk.i64_in _ (by omega)]; omega
    by_cases hn2 : x = 104
    · subst hn2
      have HG := Lib.hid (show ((3, 0) :: (sxE s d (k + 1)).1, (sxE s d (k + 1)).2) = R by rw [← HS.out, if_pos (HEQ.out.2.1.2 rfl)])
      have hbd := sxE_bd s d (k + 1)
      obtain ⟨⟨xs, q, ok⟩, hr⟩ : ∃ r, sxE s d (k + 1) = r := ⟨_, rfl⟩
      rw [hr] at HG hbd
      have b2 := hbd.len
      simp only at b2
      have HRA := Lib.hid hr
      clear HS HEQ hr hbd
      go_enter Tryd.func43, Tryd.ntmps43
      go_wp2_with (first
        | (go_at_call 60; refine (l01Digit_c 104 false _ HQ.out).mono ?_; rintro e w' ⟨rfl, rfl⟩)
        | (go_at_call 43; refine (HCALL.out (k + 1) _ _ _ (by omega) (by omega) (by omega)).mono ?_; rw [HRA.out]; rintro e w1 ⟨A1, n1, c1, rfl, hw1, hc1, hb1⟩; have B1 := Lib.hid hb1; have W1 := Lib.hid (show Rd2 w1 A1 n1 xs from hw1.rd); have z1 := hb1.size; have hl1 : xs.length = n1 := Rd2.len hw1.rd; clear hw1 hb1)
        | (at_builtin; refine wp_appExpr (by rfl) _ _ (by rfl) w.heap.size _ _ _ [i64 3, i64 0] (by rfl) (by exact Own.fullK z1 rfl rfl (by omega)) A1 n1 c1 xs (by rfl) (by exact W1.out.alloc _) (by omega) (by simp; omega) ?_; intro A6 c6 w6 own6 hb6 hk6 hg6 hz6))
      go_ret3
      rw [← HG.out]
      exact ⟨A6, 1 + n1, c6, rfl, own6.wrK, own6.cap, (B1.out.alloc z1 _).trans hb6⟩
    have g2 : (x == 104) = false := by simpa using hn2
    have HS := Lib.hid (show (if c = 116 then ((4, 0) :: (sxE s d (k + 1)).1, (sxE s d (k + 1)).2)
      else if c = 40 then pairS s (sxE s d (k + 1)) (fun q => sxE s d (q + 1)) k
      else ([], k, false)) = R by rw [← HS.out, if_neg (show ¬ c = 104 from fun e => hn2 (HEQ.out.2.1.1 e))])
    clear hn2
    by_cases hn3 : x = 116
    · subst hn3
      have HG := Lib.hid (show ((4, 0) :: (sxE s d (k + 1)).1, (sxE s d (k + 1)).2) = R by rw [← HS.out, if_pos (HEQ.out.2.2.1.2 rfl)])
      have hbd := sxE_bd s d (k + 1)
      obtain ⟨⟨xs, q, ok⟩, hr⟩ : ∃ r, sxE s d (k + 1) = r := ⟨_, rfl⟩
      rw [hr] at HG hbd
      have b2 := hbd.len
      simp only at b2
      have HRA := Lib.hid hr
      clear HS HEQ hr hbd
      go_enter Tryd.func43, Tryd.ntmps43
      go_wp2_with (first
        | (go_at_call 60; refine (l01Digit_c 116 false _ HQ.out).mono ?_; rintro e w' ⟨rfl, rfl⟩)
        | (go_at_call 43; refine (HCALL.out (k + 1) _ _ _ (by omega) (by omega) (by omega)).mono ?_; rw [HRA.out]; rintro e w1 ⟨A1, n1, c1, rfl, hw1, hc1, hb1⟩; have B1 := Lib.hid hb1; have W1 := Lib.hid (show Rd2 w1 A1 n1 xs from hw1.rd); have z1 := hb1.size; have hl1 : xs.length = n1 := Rd2.len hw1.rd; clear hw1 hb1)
        | (at_builtin; refine wp_appExpr (by rfl) _ _ (by rfl) w.heap.size _ _ _ [i64 4, i64 0] (by rfl) (by exact Own.fullK z1 rfl rfl (by omega)) A1 n1 c1 xs (by rfl) (by exact W1.out.alloc _) (by omega) (by simp; omega) ?_; intro A6 c6 w6 own6 hb6 hk6 hg6 hz6))
      go_ret3
      rw [← HG.out]
      exact ⟨A6, 1 + n1, c6, rfl, own6.wrK, own6.cap, (B1.out.alloc z1 _).trans hb6⟩
    have g3 : (x == 116) = false := by simpa using hn3
    have HS := Lib.hid (show (if c = 40 then pairS s (sxE s d (k + 1)) (fun q => sxE s d (q + 1)) k
      else ([], k, false)) = R by rw [← HS.out, if_neg (show ¬ c = 116 from fun e => hn3 (HEQ.out.2.2.1.1 e))])
    clear hn3
    by_cases hn4 : x = 40
    rotate_left
    · have g4 : (x != 40) = true := by simpa using hn4
      have HG := Lib.hid (show (([], k, false) : RdE) = R by rw [← HS.out, if_neg (show ¬ c = 40 from fun e => hn4 (HEQ.out.2.2.2.1 e))])
      clear HS HEQ hn4
      go_enter Tryd.func43, Tryd.ntmps43
      go_wp2_with (go_at_call 60; refine (l01Digit_c x false _ HQ.out).mono ?_; rintro e w' ⟨rfl, rfl⟩)
      go_ret3
      rw [← HG.out]
      exact RxOut.bad below_size
    subst hn4
    have hbd := sxE_bd s d (k + 1)
    obtain ⟨⟨xs, q, ok⟩, hr⟩ : ∃ r, sxE s d (k + 1) = r := ⟨_, rfl⟩
    have HG := Lib.hid (show pairS s (xs, q, ok) (fun q => sxE s d (q + 1)) k = R by rw [← HS.out, if_pos (HEQ.out.2.2.2.2 rfl), hr])
    rw [hr] at hbd
    have b1 := hbd.ok; have b2 := hbd.len; have b3 := hbd.next
    simp only at b1 b2 b3
    have HRA := Lib.hid hr
    clear HS HEQ hr hbd
    cases ok
    · have HB := Lib.hid (show ([], k, false) = R by rw [← HG.out, pairS_no1 (.inl rfl)])
      clear HG
      go_enter Tryd.func43, Tryd.ntmps43
      go_wp2_with (go_at_call 60; refine (l01Digit_c 40 false _ HQ.out).mono ?_; rintro e w' ⟨rfl, rfl⟩)
      refine (HCALL.out (k + 1) _ _ _ (by omega) (by omega) (by omega)).mono ?_
      rw [HRA.out]
      rintro e w1 ⟨A1, n1, c1, rfl, hw1, hc1, hb1⟩
      have B1 := Lib.hid hb1
      have W1 := Lib.hid (show Rd2 w1 A1 n1 xs from hw1.rd)
      have z1 := hb1.size
      have hl1 : xs.length = n1 := Rd2.len hw1.rd
      clear hw1 hb1
      go_wp2_with fail
      go_ret3
      rw [← HB.out]
      exact RxOut.bad B1.out
    obtain ⟨b4, b5⟩ := b1 rfl
    by_cases hqn : n ≤ q
    · have HB := Lib.hid (show ([], k, false) = R by rw [← HG.out, pairS_no1 (.inr (by rw [HLN.out]; exact hqn))])
      clear HG
      go_enter Tryd.func43, Tryd.ntmps43
      go_wp2_with (go_at_call 60; refine (l01Digit_c 40 false _ HQ.out).mono ?_; rintro e w' ⟨rfl, rfl⟩)
      refine (HCALL.out (k + 1) _ _ _ (by omega) (by omega) (by omega)).mono ?_
      rw [HRA.out]
      rintro e w1 ⟨A1, n1, c1, rfl, hw1, hc1, hb1⟩
      have B1 := Lib.hid hb1
      have W1 := Lib.hid (show Rd2 w1 A1 n1 xs from hw1.rd)
      have z1 := hb1.size
      have hl1 : xs.length = n1 := Rd2.len hw1.rd
      clear hw1 hb1
      go_wp2_with fail
      go_ret3
      rw [← HB.out]
      exact RxOut.bad B1.out
    obtain ⟨c2, hc2⟩ : ∃ c, s[q]? = some c := ⟨_, List.getElem?_eq_getElem (by rw [HLN.out]; omega)⟩
    obtain ⟨x2, hx2⟩ : ∃ x : Int, (c2.toNat : Int) = x := ⟨_, rfl⟩
    have hx3 : 0 ≤ x2 ∧ x2 ≤ 255 := by have := UInt8.toNat_lt c2; omega
    have hix2 := fun w => run_ixS hc2 hx2 w
    have hbd2 := sxE_bd s d (q + 1)
    obtain ⟨⟨ys, z, ok2⟩, hr2⟩ : ∃ r, sxE s d (q + 1) = r := ⟨_, rfl⟩
    rw [hr2] at hbd2
    have d1 := hbd2.ok; have d2 := hbd2.len; have d3 := hbd2.next
    simp only at d1 d2 d3
    have HRB := Lib.hid hr2
    have HQL := Lib.hid (show q < s.length by rw [HLN.out]; omega)
    have HC2 := Lib.hid hc2
    have H63 := Lib.hid (show c2 = 63 ↔ x2 = 63 by rw [← hx2]; exact u8_eq (d := 63) (by omega))
    clear hc2 hx2 hr2 hbd2 b1
    by_cases hm : x2 = 63
    · subst hm
      have HKD := Lib.hid (show (if c2 = 63 then (5 : Int) else 2) = 5 from if_pos (H63.out.2 rfl))
      cases ok2
      · have HB := Lib.hid (show ([], k, false) = R by rw [← HG.out, pairS_no2 HQL.out HRB.out (.inl rfl)])
        clear HG
        go_enter Tryd.func43, Tryd.ntmps43
        go_wp2_with (go_at_call 60; refine (l01Digit_c 40 false _ HQ.out).mono ?_; rintro e w' ⟨rfl, rfl⟩)
        refine (HCALL.out (k + 1) _ _ _ (by omega) (by omega) (by omega)).mono ?_
        rw [HRA.out]
        rintro e w1 ⟨A1, n1, c1, rfl, hw1, hc1, hb1⟩
        have B1 := Lib.hid hb1
        have W1 := Lib.hid (show Rd2 w1 A1 n1 xs from hw1.rd)
        have z1 := hb1.size
        have hl1 : xs.length = n1 := Rd2.len hw1.rd
        clear hw1 hb1
        go_wp2_with fail
        refine (HCALL.out (q + 1) _ _ _ (by omega) (by omega) (by omega)).mono ?_
        rw [HRB.out]
        rintro e w2 ⟨A2, n2, c2', rfl, hw2, hc2, hb2⟩
        have B2 := Lib.hid (below_chain B1.out B1.out.size hb2)
        have W2 := Lib.hid (show Rd2 w2 A2 n2 ys from hw2.rd)
        have V1 := Lib.hid (W1.out.below hb2)
        have z2 := B2.out.size
        have hl2 : ys.length = n2 := Rd2.len hw2.rd
        clear hw2 hb2
        go_wp2_with fail
        go_ret3
        rw [← HB.out]
        exact RxOut.bad B2.out
      obtain ⟨d4, d5⟩ := d1 rfl
      by_cases hzn : n ≤ z
      · have HB := Lib.hid (show ([], k, false) = R by rw [← HG.out, pairS_no2 HQL.out HRB.out (.inr (by rw [HLN.out]; exact hzn))])
        clear HG
        go_enter Tryd.func43, Tryd.ntmps43
        go_wp2_with (go_at_call 60; refine (l01Digit_c 40 false _ HQ.out).mono ?_; rintro e w' ⟨rfl, rfl⟩)
        refine (HCALL.out (k + 1) _ _ _ (by omega) (by omega) (by omega)).mono ?_
        rw [HRA.out]
        rintro e w1 ⟨A1, n1, c1, rfl, hw1, hc1, hb1⟩
        have B1 := Lib.hid hb1
        have W1 := Lib.hid (show Rd2 w1 A1 n1 xs from hw1.rd)
        have z1 := hb1.size
        have hl1 : xs.length = n1 := Rd2.len hw1.rd
        clear hw1 hb1
        go_wp2_with fail
        refine (HCALL.out (q + 1) _ _ _ (by omega) (by omega) (by omega)).mono ?_
        rw [HRB.out]
        rintro e w2 ⟨A2, n2, c2', rfl, hw2, hc2, hb2⟩
        have B2 := Lib.hid (below_chain B1.out B1.out.size hb2)
        have W2 := Lib.hid (show Rd2 w2 A2 n2 ys from hw2.rd)
        have V1 := Lib.hid (W1.out.below hb2)
        have z2 := B2.out.size
        have hl2 : ys.length = n2 := Rd2.len hw2.rd
        clear hw2 hb2
        go_wp2_with fail
        go_ret3
        rw [← HB.out]
        exact RxOut.bad B2.out
      have HB := Lib.hid (show ((5, 0) :: (xs ++ ys), z + 1, true) = R by rw [← HG.out, pairS_yes HC2.out HRB.out (by rw [HLN.out]; omega), HKD.out])
      clear HG
      go_enter Tryd.func43, Tryd.ntmps43
      go_wp2_with (go_at_call 60; refine (l01Digit_c 40 false _ HQ.out).mono ?_; rintro e w' ⟨rfl, rfl⟩)
      refine (HCALL.out (k + 1) _ _ _ (by omega) (by omega) (by omega)).mono ?_
      rw [HRA.out]
      rintro e w1 ⟨A1, n1, c1, rfl, hw1, hc1, hb1⟩
      have B1 := Lib.hid hb1
      have W1 := Lib.hid (show Rd2 w1 A1 n1 xs from hw1.rd)
      have z1 := hb1.size
      have hl1 : xs.length = n1 := Rd2.len hw1.rd
      clear hw1 hb1
      go_wp2_with fail
      refine (HCALL.out (q + 1) _ _ _ (by omega) (by omega) (by omega)).mono ?_
      rw [HRB.out]
      rintro e w2 ⟨A2, n2, c2', rfl, hw2, hc2, hb2⟩
      have B2 := Lib.hid (below_chain B1.out B1.out.size hb2)
      have W2 := Lib.hid (show Rd2 w2 A2 n2 ys from hw2.rd)
      have V1 := Lib.hid (W1.out.below hb2)
      have z2 := B2.out.size
      have hl2 : ys.length = n2 := Rd2.len hw2.rd
      clear hw2 hb2
      go_wp2_with (at_builtin; first
        | (refine wp_appExpr (by rfl) _ _ (by rfl) w2.heap.size _ _ _ [i64 5, i64 0] (by rfl) (by exact Own.fullK (Nat.le_refl _) rfl rfl (by omega)) A1 n1 c1 xs (by rfl) (by exact V1.out.alloc _) (by omega) (by simp) ?_; intro A6 c6 w6 own6 hb6 hk6 hg6 hz6; have O6 := Lib.hid own6; have B6 := Lib.hid ((below_size.alloc (Nat.le_refl _) _).trans hb6); have W6 := Lib.hid (W2.out.below B6.out); have z6 := B6.out.size; clear own6 hb6 hk6 hg6 hz6)
        | (refine wp_appExpr (by rfl) _ _ (by rfl) w2.heap.size A6 (1 + n1) c6 ([i64 5, i64 0] ++ xs.flatMap enc2) (by rfl) (by exact O6.out) A2 n2 c2' ys (by rfl) (by exact W6.out) (by omega) (by omega) ?_; intro A7 c7 w7 own7 hb7 hk7 hg7 hz7))
      go_ret3
      rw [← HB.out]
      refine ⟨A7, 1 + n1 + n2, c7, rfl, ?_, own7.cap, (B2.out.trans (B6.out.mono z2)).trans (hb7.mono z2)⟩
      have h9 := own7.wrK.wider (lo' := w.heap.size) z2 (Nat.le_refl _)
      rw [List.append_assoc] at h9
      rw [List.flatMap_cons, List.flatMap_append]
      exact h9
    · have g5 : (x2 == 63) = false := by simpa using hm
      have HKD := Lib.hid (show (if c2 = 63 then (5 : Int) else 2) = 2 from if_neg (fun e => hm (H63.out.1 e)))
      clear hm
      cases ok2
      · have HB := Lib.hid (show ([], k, false) = R by rw [← HG.out, pairS_no2 HQL.out HRB.out (.inl rfl)])
        clear HG
        go_enter Tryd.func43, Tryd.ntmps43
        go_wp2_with (go_at_call 60; refine (l01Digit_c 40 false _ HQ.out).mono ?_; rintro e w' ⟨rfl, rfl⟩)
        refine (HCALL.out (k + 1) _ _ _ (by omega) (by omega) (by omega)).mono ?_
        rw [HRA.out]
        rintro e w1 ⟨A1, n1, c1, rfl, hw1, hc1, hb1⟩
        have B1 := Lib.hid hb1
        have W1 := Lib.hid (show Rd2 w1 A1 n1 xs from hw1.rd)
        have z1 := hb1.size
        have hl1 : xs.length = n1 := Rd2.len hw1.rd
        clear hw1 hb1
        go_wp2_with fail
        refine (HCALL.out (q + 1) _ _ _ (by omega) (by omega) (by omega)).mono ?_
        rw [HRB.out]
        rintro e w2 ⟨A2, n2, c2', rfl, hw2, hc2, hb2⟩
        have B2 := Lib.hid (below_chain B1.out B1.out.size hb2)
        have W2 := Lib.hid (show Rd2 w2 A2 n2 ys from hw2.rd)
        have V1 := Lib.hid (W1.out.below hb2)
        have z2 := B2.out.size
        have hl2 : ys.length = n2 := Rd2.len hw2.rd
        clear hw2 hb2
        go_wp2_with fail
        go_ret3
        rw [← HB.out]
        exact RxOut.bad B2.out
      obtain ⟨d4, d5⟩ := d1 rfl
      by_cases hzn : n ≤ z
      · have HB := Lib.hid (show ([], k, false) = R by rw [← HG.out, pairS_no2 HQL.out HRB.out (.inr (by rw [HLN.out]; exact hzn))])
        clear HG
        go_enter Tryd.func43, Tryd.ntmps43
        go_wp2_with (go_at_call 60; refine (l01Digit_c 40 false _ HQ.out).mono ?_; rintro e w' ⟨rfl, rfl⟩)
        refine (HCALL.out (k + 1) _ _ _ (by omega) (by omega) (by omega)).mono ?_
        rw [HRA.out]
        rintro e w1 ⟨A1, n1, c1, rfl, hw1, hc1, hb1⟩
        have B1 := Lib.hid hb1
        have W1 := Lib.hid (show Rd2 w1 A1 n1 xs from hw1.rd)
        have z1 := hb1.size
        have hl1 : xs.length = n1 := Rd2.len hw1.rd
        clear hw1 hb1
        go_wp2_with fail
        refine (HCALL.out (q + 1) _ _ _ (by omega) (by omega) (by omega)).mono ?_
        rw [HRB.out]
        rintro e w2 ⟨A2, n2, c2', rfl, hw2, hc2, hb2⟩
        have B2 := Lib.hid (below_chain B1.out B1.out.size hb2)
        have W2 := Lib.hid (show Rd2 w2 A2 n2 ys from hw2.rd)
        have V1 := Lib.hid (W1.out.below hb2)
        have z2 := B2.out.size
        have hl2 : ys.length = n2 := Rd2.len hw2.rd
        clear hw2 hb2
        go_wp2_with fail
        go_ret3
        rw [← HB.out]
        exact RxOut.bad B2.out
      have HB := Lib.hid (show ((2, 0) :: (xs ++ ys), z + 1, true) = R by rw [← HG.out, pairS_yes HC2.out HRB.out (by rw [HLN.out]; omega), HKD.out])
      clear HG
      go_enter Tryd.func43, Tryd.ntmps43
      go_wp2_with (go_at_call 60; refine (l01Digit_c 40 false _ HQ.out).mono ?_; rintro e w' ⟨rfl, rfl⟩)
      refine (HCALL.out (k + 1) _ _ _ (by omega) (by omega) (by omega)).mono ?_
      rw [HRA.out]
      rintro e w1 ⟨A1, n1, c1, rfl, hw1, hc1, hb1⟩
      have B1 := Lib.hid hb1
      have W1 := Lib.hid (show Rd2 w1 A1 n1 xs from hw1.rd)
      have z1 := hb1.size
      have hl1 : xs.length = n1 := Rd2.len hw1.rd
      clear hw1 hb1
      go_wp2_with fail
      refine (HCALL.out (q + 1) _ _ _ (by omega) (by omega) (by omega)).mono ?_
      rw [HRB.out]
      rintro e w2 ⟨A2, n2, c2', rfl, hw2, hc2, hb2⟩
      have B2 := Lib.hid (below_chain B1.out B1.out.size hb2)
      have W2 := Lib.hid (show Rd2 w2 A2 n2 ys from hw2.rd)
      have V1 := Lib.hid (W1.out.below hb2)
      have z2 := B2.out.size
      have hl2 : ys.length = n2 := Rd2.len hw2.rd
      clear hw2 hb2
      go_wp2_with (at_builtin; first
        | (refine wp_appExpr (by rfl) _ _ (by rfl) w2.heap.size _ _ _ [i64 2, i64 0] (by rfl) (by exact Own.fullK (Nat.le_refl _) rfl rfl (by omega)) A1 n1 c1 xs (by rfl) (by exact V1.out.alloc _) (by omega) (by simp) ?_; intro A6 c6 w6 own6 hb6 hk6 hg6 hz6; have O6 := Lib.hid own6; have B6 := Lib.hid ((below_size.alloc (Nat.le_refl _) _).trans hb6); have W6 := Lib.hid (W2.out.below B6.out); have z6 := B6.out.size; clear own6 hb6 hk6 hg6 hz6)
        | (refine wp_appExpr (by rfl) _ _ (by rfl) w2.heap.size A6 (1 + n1) c6 ([i64 2, i64 0] ++ xs.flatMap enc2) (by rfl) (by exact O6.out) A2 n2 c2' ys (by rfl) (by exact W6.out) (by omega) (by omega) ?_; intro A7 c7 w7 own7 hb7 hk7 hg7 hz7))
      go_ret3
      rw [← HB.out]
      refine ⟨A7, 1 + n1 + n2, c7, rfl, ?_, own7.cap, (B2.out.trans (B6.out.mono z2)).trans (hb7.mono z2)⟩
      have h9 := own7.wrK.wider (lo' := w.heap.size) z2 (Nat.le_refl _)
      rw [List.append_assoc] at h9
      rw [List.flatMap_cons, List.flatMap_append]
      exact h9
end Go.Proofs.YtkchgjegdmcnaaaDoor
