/-
  Reading functions: the reference's reader of functions.
-/
import Derived.Test.YtnoapoaajidncaaDoorC11e
import Derived.Test.YtnoapoaajidncaaDoorOwnC
namespace Go.Proofs.YtnoapoaajidncaaDoor
open Go.RowKit
open FTr

/-- a function that was read, the offset behind it, whether it is one -/
def PzOut (r : RdF) (w : World) (e : Ending) (w' : World) : Prop := ∃ A n c, e = .returned (.tuple #[.slice A n c, .int .i64 (r.2.1 : Int), .bool r.2.2]) ∧ Wr w' w.heap.size w'.heap.size A (n * 3) (r.1.flatMap enc3) ∧ n ≤ c ∧ Below w.heap.size w w'
theorem PzOut.bad {w w' : World} {k : Nat} (h : Below w.heap.size w w') : PzOut ([], k, false) w (.returned (.tuple #[.slice none 0 0, .int .i64 (k : Int), .bool false])) w' := ⟨none, 0, 0, rfl, Wr.nil, Nat.le_refl _, h⟩
theorem PzOut.leaf {w : World} {a b c z : Int} {k : Nat} {q : Bool} {T : TypeId} (hz : z = (k : Int)) : PzOut ([(a, b, c)], k, q) w (.returned (.tuple #[.slice (some ⟨w.heap.size, 0, none⟩) 1 1, .int .i64 z, .bool q])) (w.alloc (.cells #[i64 a, i64 b, i64 c] T)) := by
  subst hz
  exact ⟨_, 1, 1, rfl, (Blk.new w T #[i64 a, i64 b, i64 c]).wr (Nat.le_refl _) (by simp) rfl (by simp), Nat.le_refl _, below_size.alloc (Nat.le_refl _) _⟩
theorem pzT_no0 {s : List UInt8} {g : Nat → RdF} {k : Nat} {isR : Bool} (h : byS s (k + 1) 40 = false) : pzT s g k isR = ([], k, false) := by rw [pzT, h]; rfl
theorem pzT_no1 {s : List UInt8} {g : Nat → RdF} {k : Nat} {isR : Bool} {l : List Nd3} {q : Nat} {ok : Bool} (hg : g (k + 2) = (l, q, ok)) (h : ok = false ∨ byS s q 59 = false) : pzT s g k isR = ([], k, false) := by
  rw [pzT, hg]
  split
  · rw [if_neg]
    rintro ⟨h1, h2⟩
    simp only at h1 h2
    rcases h with h | h
    · rw [h] at h1; cases h1
    · rw [h] at h2; cases h2
  · rfl
theorem pzT_go {s : List UInt8} {g : Nat → RdF} {k : Nat} {isR : Bool} {l : List Nd3} {q : Nat} (h0 : byS s (k + 1) 40 = true) (hg : g (k + 2) = (l, q, true)) (h : byS s q 59 = true) : pzT s g k isR = pzH s isR k (pzL s g isR 61 l 0 q) := by
  rw [pzT, if_pos h0, hg, if_pos ⟨rfl, h⟩]
theorem pzL_no {s : List UInt8} {g : Nat → RdF} {isR : Bool} {F many next : Nat} {all f : List Nd3} {e : Nat} {ok : Bool} (hg : g (next + 1) = (f, e, ok)) (h : ok = false ∨ 60 < all.length + f.length) : pzL s g isR (F + 1) all many next = none := by
  rw [pzL, hg, if_pos h]
theorem pzL_end {s : List UInt8} {g : Nat → RdF} {isR : Bool} {F many next : Nat} {all f : List Nd3} {e : Nat} (hg : g (next + 1) = (f, e, true)) (h : ¬ 60 < all.length + f.length) (h2 : byS s e 44 = false ∨ isR = true) : pzL s g isR (F + 1) all many next = some (all ++ f, hdA f, many + 1, e) := by
  rw [pzL, hg, if_neg (by rintro (h' | h'); · cases h'
                          · exact h h'), if_pos h2]
theorem pzL_more {s : List UInt8} {g : Nat → RdF} {isR : Bool} {F many next : Nat} {all f : List Nd3} {e : Nat} (hg : g (next + 1) = (f, e, true)) (h : ¬ 60 < all.length + f.length) (h2 : byS s e 44 = true) (h3 : isR = false) : pzL s g isR (F + 1) all many next = pzL s g isR F (all ++ f) (many + 1) e := by
  rw [pzL, hg, if_neg (by rintro (h' | h'); · cases h'
                          · exact h h'), if_neg (by rintro (h' | h'); · simp only at h'; rw [h2] at h'; cases h'
                                                    · rw [h3] at h'; cases h')]
/-- where a function begins, its arity -/
theorem hd_cell {w : World} {ad : Addr} {n : Nat} {f : List Nd3} (h : Rd3 w (some ad) n f) (hn : 0 < n) : w.cell? ⟨ad.block, ad.off + 1, none⟩ = some (i64 (hdA f)) := by
  obtain ⟨ad', x, e, _, hx, _, hc, _⟩ := h.at_ hn
  injection e with e; subst e
  rw [Nat.zero_mul, addrZf] at hc
  rw [hc]
  cases f with
  | nil => simp at hx
  | cons y f => simp only [List.getElem?_cons_zero, Option.some.injEq] at hx; subst hx; rfl
set_option maxHeartbeats 4000000 in
set_option maxRecDepth 100000 in
theorem l11Two_c (s : List UInt8) (hs : s.length ≤ 1048576) (d : Nat) (hd : d + 1 ≤ 60) (IH : ∀ (k : Nat) (w : World), k ≤ 2000000 → Calls Tryd.prog 18 #[.string (bs s), .int .i64 (k : Int), .int .i64 (d : Int)] w (PzOut (pzE s d k) w))
    (k : Nat) (x : Int) (isR : Bool) (c : UInt8) (hc : s[k]? = some c) (hx : (c.toNat : Int) = x) (gx : (x == 82) = isR) (di : Int) (hdi : di = ((d + 1 : Nat) : Int)) (w : World) :
    Calls Tryd.prog 31 #[.string (bs s), .int .i64 (k : Int), .int .i64 di] w (PzOut (pzT s (pzE s d) k isR) w) := by
  subst hdi
  have hkl := (List.getElem?_eq_some_iff.1 hc).1
  have hix := fun w => run_ixS hc hx w
  obtain ⟨R, hR⟩ : ∃ R, pzT s (pzE s d) k isR = R := ⟨_, rfl⟩
  rw [hR]
  obtain ⟨n, hn⟩ : ∃ n, (bs s).size = n := ⟨_, rfl⟩
  have hln : s.length = n := by rw [← hn, bs_size]
  rw [hln] at hkl
  have hn2 : n ≤ 1048576 := by rw [← hln]; exact hs
  have HLN := Lib.hid hln
  have HR := Lib.hid hR
  have HCALL := Lib.hid (show ∀ (k : Nat) (ki di : Int) (w : World), k ≤ 2000000 → ki = k → di = d → Calls Tryd.prog 18 #[.string (bs s), .int .i64 ki, .int .i64 di] w (PzOut (pzE s d k) w) from fun k ki di w hk h1 h2 => by
    subst h1; subst h2; exact IH k w hk)
  have v1 : IntKind.i64.wrap (((d + 1 : Nat) : Int) - 1) = (d : Int) := by rw [IntWalk.i64_in _ (by omega)]; omega
  clear hR IH hln hc hx
  obtain ⟨b0, hb0⟩ : ∃ b, byS s (k + 1) 40 = b := ⟨_, rfl⟩
  have H0 := Lib.hid (show byS s (k + 1) (UInt8.ofNat 40) = b0 from hb0)
  cases b0
  · have HG := Lib.hid (show ([], k, false) = R by rw [← HR.out, pzT_no0 hb0])
    clear hb0
    go_enter Tryd.func31, Tryd.ntmps31
    go_wp2_with (first | (go_at_call 30; refine (l11Byte_c s (k + 1) _ 40 _ false _ hs (by omega) (by omega) (by omega) (by rfl) H0.out).mono ?_; rintro e w' ⟨rfl, rfl⟩))
    go_ret3
    rw [← HG.out]
    exact PzOut.bad below_size
  have hbd := pzE_bd s d (k + 2)
  obtain ⟨⟨l0, q0, ok0⟩, hr0⟩ : ∃ r, pzE s d (k + 2) = r := ⟨_, rfl⟩
  rw [hr0] at hbd
  have b1 := hbd.len; have b2 := hbd.next
  simp only at b1 b2
  rw [HLN.out] at b2
  have HRA := Lib.hid hr0
  clear hbd hr0
  cases ok0
  · have HG := Lib.hid (show ([], k, false) = R by rw [← HR.out, pzT_no1 HRA.out (.inl rfl)])
    clear hb0
    go_enter Tryd.func31, Tryd.ntmps31
    go_wp2_with (first | (go_at_call 30; refine (l11Byte_c s (k + 1) _ 40 _ true _ hs (by omega) (by omega) (by omega) (by rfl) H0.out).mono ?_; rintro e w' ⟨rfl, rfl⟩) | (go_at_call 18; refine (HCALL.out (k + 2) _ _ _ (by omega) (by omega) (by omega)).mono ?_; rw [HRA.out]; rintro e w1 ⟨A1, n1, c1, rfl, hw1, hc1, hb1⟩; have B1 := Lib.hid hb1; have W1 := Lib.hid (show Rd3 w1 A1 n1 l0 from hw1.rd); have z1 := hb1.size; have hl1 : l0.length = n1 := Rd3.len hw1.rd; clear hw1 hb1))
    go_ret3
    rw [← HG.out]
    exact PzOut.bad B1.out
  obtain ⟨b3, hb3⟩ : ∃ b, byS s q0 59 = b := ⟨_, rfl⟩
  have H1 := Lib.hid (show byS s q0 (UInt8.ofNat 59) = b3 from hb3)
  cases b3
  · have HG := Lib.hid (show ([], k, false) = R by rw [← HR.out, pzT_no1 HRA.out (.inr hb3)])
    clear hb0 hb3
    go_enter Tryd.func31, Tryd.ntmps31
    go_wp2_with (first | (go_at_call 30; refine (l11Byte_c s (k + 1) _ 40 _ true _ hs (by omega) (by omega) (by omega) (by rfl) H0.out).mono ?_; rintro e w' ⟨rfl, rfl⟩) | (go_at_call 18; refine (HCALL.out (k + 2) _ _ _ (by omega) (by omega) (by omega)).mono ?_; rw [HRA.out]; rintro e w1 ⟨A1, n1, c1, rfl, hw1, hc1, hb1⟩; have B1 := Lib.hid hb1; have W1 := Lib.hid (show Rd3 w1 A1 n1 l0 from hw1.rd); have z1 := hb1.size; have hl1 : l0.length = n1 := Rd3.len hw1.rd; clear hw1 hb1) | (go_at_call 30; refine (l11Byte_c s (q0) _ 59 _ false _ hs (by omega) (by omega) (by omega) (by rfl) H1.out).mono ?_; rintro e w' ⟨rfl, rfl⟩))
    go_ret3
    rw [← HG.out]
    exact PzOut.bad B1.out
  have HL := Lib.hid (show pzH s isR k (pzL s (pzE s d) isR 61 l0 0 q0) = R by rw [← HR.out, pzT_go hb0 HRA.out hb3])
  have hq0 : q0 < n := by have := byS_lt hb3; rw [HLN.out] at this; exact this
  clear hb0 hb3 HR
  go_enter Tryd.func31, Tryd.ntmps31
  go_wp2_with (first | (go_at_call 30; refine (l11Byte_c s (k + 1) _ 40 _ true _ hs (by omega) (by omega) (by omega) (by rfl) H0.out).mono ?_; rintro e w' ⟨rfl, rfl⟩) | (go_at_call 18; refine (HCALL.out (k + 2) _ _ _ (by omega) (by omega) (by omega)).mono ?_; rw [HRA.out]; rintro e w1 ⟨A1, n1, c1, rfl, hw1, hc1, hb1⟩; have B1 := Lib.hid hb1; have W1 := Lib.hid (show Rd3 w1 A1 n1 l0 from hw1.rd); have z1 := hb1.size; have hl1 : l0.length = n1 := Rd3.len hw1.rd; clear hw1 hb1) | (go_at_call 30; refine (l11Byte_c s (q0) _ 59 _ true _ hs (by omega) (by omega) (by omega) (by rfl) H1.out).mono ?_; rintro e w' ⟨rfl, rfl⟩))
  go_loopw [10, 12, 13, 14] (fun nv av mv rv wr => ∃ (next m an ac : Nat) (AA : Option Addr) (all : List Nd3) (ar : Int), next < n ∧ nv = .int .i64 (next : Int) ∧ m ≤ 60 ∧ mv = .int .i64 (m : Int) ∧ rv = .int .i64 ar ∧ av = .slice AA an ac ∧ an ≤ 130 ∧ (m = 0 ∨ an ≤ 60) ∧ m ≤ an ∧ Hid (Rd3 wr AA an all) ∧ Hid (pzH s isR k (pzL s (pzE s d) isR (61 - m) all m next) = R) ∧ Below w.heap.size w wr) (fun _ _ mv _ _ => 61 - (intOf mv).toNat)
  case atStart => exact ⟨q0, 0, n1, c1, A1, l0, 0, hq0, rfl, by omega, rfl, rfl, rfl, by omega, .inl rfl, by omega, W1.out, HL.out, B1.out⟩
  case round =>
    obtain ⟨next, m, an, ac, AA, all, ar, hnx, rfl, hm, rfl, rfl, rfl, han, hma, hman, hA, hP, hb⟩ := hrel
    have HB := Lib.hid hb
    have hal : all.length = an := hA.out.len
    have hbd := pzE_bd s d (next + 1)
    obtain ⟨⟨f2, e2, ok2⟩, hr2⟩ : ∃ r, pzE s d (next + 1) = r := ⟨_, rfl⟩
    rw [hr2] at hbd
    have d1 := hbd.len; have d2 := hbd.next; have d3 := hbd.pos; have d4 := hbd.hd
    simp only at d1 d2 d3 d4
    rw [HLN.out] at d2
    have HRB := Lib.hid hr2
    have e61 : 61 - m = (60 - m) + 1 := by omega
    rw [e61] at hP
    clear hbd hr2 hb e61
    cases ok2
    · have HG := Lib.hid (show ([], k, false) = R by rw [← hP.out, pzL_no HRB.out (.inl rfl)]; rfl)
      clear hP
      go_wp2_with (first | (go_at_call 18; refine (HCALL.out (next + 1) _ _ _ (by omega) (by omega) (by omega)).mono ?_; rw [HRB.out]; rintro e w2 ⟨A2, n2, c2, rfl, hw2, hc2, hb2⟩; have B2 := Lib.hid (below_chain HB.out HB.out.size hb2); have W2 := Lib.hid (show Rd3 w2 A2 n2 f2 from hw2.rd); have V1 := Lib.hid (Rd3.below hA.out hb2); have z2 := B2.out.size; have hl2 : f2.length = n2 := Rd3.len hw2.rd; clear hw2 hb2))
      go_ret3
      rw [← HG.out]
      exact PzOut.bad B2.out
    have d3 := d3 rfl
    by_cases h60 : 60 < all.length + f2.length
    · have HG := Lib.hid (show ([], k, false) = R by rw [← hP.out, pzL_no HRB.out (.inr h60)]; rfl)
      clear hP
      go_wp2_with (first | (go_at_call 18; refine (HCALL.out (next + 1) _ _ _ (by omega) (by omega) (by omega)).mono ?_; rw [HRB.out]; rintro e w2 ⟨A2, n2, c2, rfl, hw2, hc2, hb2⟩; have B2 := Lib.hid (below_chain HB.out HB.out.size hb2); have W2 := Lib.hid (show Rd3 w2 A2 n2 f2 from hw2.rd); have V1 := Lib.hid (Rd3.below hA.out hb2); have z2 := B2.out.size; have hl2 : f2.length = n2 := Rd3.len hw2.rd; clear hw2 hb2))
      go_ret3
      rw [← HG.out]
      exact PzOut.bad B2.out
    have HNE := Lib.hid d3
    have h60' : all.length + f2.length ≤ 60 := by omega
    obtain ⟨b4, hb4⟩ : ∃ b, byS s e2 44 = b := ⟨_, rfl⟩
    have H4 := Lib.hid (show byS s e2 (UInt8.ofNat 44) = b4 from hb4)
    have v5 : IntKind.i64.wrap (hdA f2 - 1) = hdA f2 - 1 := IntWalk.i64_in _ (by omega)
    clear d3
    by_cases hmore : b4 = true ∧ isR = false
    · obtain ⟨rfl, rfl⟩ := hmore
      have he2 : e2 < n := by have := byS_lt hb4; rw [HLN.out] at this; exact this
      have HG := Lib.hid (show pzH s false k (pzL s (pzE s d) false (61 - (m + 1)) (all ++ f2) (m + 1) e2) = R by rw [← hP.out, pzL_more HRB.out h60 hb4 rfl, show 61 - (m + 1) = 60 - m by omega])
      clear hP hb4
      go_wp2_with (first | (go_at_call 18; refine (HCALL.out (next + 1) _ _ _ (by omega) (by omega) (by omega)).mono ?_; rw [HRB.out]; rintro e w2 ⟨A2, n2, c2, rfl, hw2, hc2, hb2⟩; have B2 := Lib.hid (below_chain HB.out HB.out.size hb2); have W2 := Lib.hid (show Rd3 w2 A2 n2 f2 from hw2.rd); have V1 := Lib.hid (Rd3.below hA.out hb2); have z2 := B2.out.size; have hl2 : f2.length = n2 := Rd3.len hw2.rd; have hn2p : 0 < n2 := (by rw [← hl2]; exact List.length_pos_iff.2 HNE.out); obtain ⟨ad2, rfl, hab2, _⟩ := W2.out.2 (by omega); have HAB2 := Lib.hid hab2; have HC2 := Lib.hid (hd_cell W2.out hn2p); have HTL : an + n2 ≤ 60 := (by omega); clear hw2 hb2 hab2) | (go_at_call 45; refine (l11Own_c AA an ac all _ V1.out (by omega)).mono ?_; rintro e w3 ⟨A3, c3, rfl, ho3, hb3⟩; have O3 := Lib.hid ho3; have B3 := Lib.hid hb3; have z3 := hb3.size; clear ho3 hb3) | (at_builtin; refine wp_appFunc (by rfl) _ _ (by rfl) w2.heap.size A3 an c3 _ (by rfl) (by exact O3.out) (some ad2) n2 c2 f2 (by rfl) (by exact Rd3.below W2.out B3.out) (by omega) (by omega) ?_; intro A4 c4 w4 own4 hb4 hk4 hg4 hz4; have R4 := Lib.hid (show Rd3 w4 A4 (an + n2) (all ++ f2) from (by have h9 := own4.wrK.rd; rw [← List.flatMap_append] at h9; exact h9)); have hc4 : w4.cell? ⟨ad2.block, ad2.off + 1, none⟩ = some (i64 (hdA f2)) := keepB hb4 HAB2.out (keepc B3.out HC2.out); have BE := Lib.hid (below_chain B2.out z2 (B3.out.trans hb4)); have z4 := BE.out.size; clear own4 hb4 hk4 hg4 hz4) | (go_at_call 30; refine (l11Byte_c s (e2) _ 44 _ true _ hs (by omega) (by omega) (by omega) (by rfl) H4.out).mono ?_; rintro e w' ⟨rfl, rfl⟩))
      go_roundw
      case rel => exact ⟨e2, m + 1, an + n2, c4, A4, all ++ f2, hdA f2, he2, rfl, by omega, by go_num, rfl, rfl, by omega, .inr HTL, by omega, R4.out, HG.out, BE.out⟩
      case measure => simp [intOf]; omega
    have hend : b4 = false ∨ isR = true := by cases b4 <;> cases isR <;> simp at hmore ⊢
    obtain ⟨b5, hb5⟩ : ∃ b, byS s e2 41 = b := ⟨_, rfl⟩
    have H5 := Lib.hid (show byS s e2 (UInt8.ofNat 41) = b5 from hb5)
    have HG := Lib.hid (show (if b5 = true then ((if isR = true then ((4, hdA f2 - 1, 0) : Nd3) else (3, hdA f2, ((m + 1 : Nat) : Int))) :: (all ++ f2), e2 + 1, true) else ([], k, false)) = R by
      rw [← hP.out, pzL_end HRB.out h60 (by rw [hb4]; exact hend), pzH, hb5])
    clear hP hmore hb4 hb5
    cases b5
    · have HX := Lib.hid (show ([], k, false) = R from HG.out)
      cases b4
      · go_wp2_with (first | (go_at_call 18; refine (HCALL.out (next + 1) _ _ _ (by omega) (by omega) (by omega)).mono ?_; rw [HRB.out]; rintro e w2 ⟨A2, n2, c2, rfl, hw2, hc2, hb2⟩; have B2 := Lib.hid (below_chain HB.out HB.out.size hb2); have W2 := Lib.hid (show Rd3 w2 A2 n2 f2 from hw2.rd); have V1 := Lib.hid (Rd3.below hA.out hb2); have z2 := B2.out.size; have hl2 : f2.length = n2 := Rd3.len hw2.rd; have hn2p : 0 < n2 := (by rw [← hl2]; exact List.length_pos_iff.2 HNE.out); obtain ⟨ad2, rfl, hab2, _⟩ := W2.out.2 (by omega); have HAB2 := Lib.hid hab2; have HC2 := Lib.hid (hd_cell W2.out hn2p); have HTL : an + n2 ≤ 60 := (by omega); clear hw2 hb2 hab2) | (go_at_call 45; refine (l11Own_c AA an ac all _ V1.out (by omega)).mono ?_; rintro e w3 ⟨A3, c3, rfl, ho3, hb3⟩; have O3 := Lib.hid ho3; have B3 := Lib.hid hb3; have z3 := hb3.size; clear ho3 hb3) | (at_builtin; refine wp_appFunc (by rfl) _ _ (by rfl) w2.heap.size A3 an c3 _ (by rfl) (by exact O3.out) (some ad2) n2 c2 f2 (by rfl) (by exact Rd3.below W2.out B3.out) (by omega) (by omega) ?_; intro A4 c4 w4 own4 hb4 hk4 hg4 hz4; have R4 := Lib.hid (show Rd3 w4 A4 (an + n2) (all ++ f2) from (by have h9 := own4.wrK.rd; rw [← List.flatMap_append] at h9; exact h9)); have hc4 : w4.cell? ⟨ad2.block, ad2.off + 1, none⟩ = some (i64 (hdA f2)) := keepB hb4 HAB2.out (keepc B3.out HC2.out); have BE := Lib.hid (below_chain B2.out z2 (B3.out.trans hb4)); have z4 := BE.out.size; clear own4 hb4 hk4 hg4 hz4) | (go_at_call 30; refine (l11Byte_c s (e2) _ 44 _ false _ hs (by omega) (by omega) (by omega) (by rfl) H4.out).mono ?_; rintro e w' ⟨rfl, rfl⟩) | (go_at_call 30; refine (l11Byte_c s (e2) _ 41 _ false _ hs (by omega) (by omega) (by omega) (by rfl) H5.out).mono ?_; rintro e w' ⟨rfl, rfl⟩))
        go_ret3
        rw [← HX.out]
        exact PzOut.bad BE.out
      · obtain rfl : isR = true := by simpa using hend
        go_wp2_with (first | (go_at_call 18; refine (HCALL.out (next + 1) _ _ _ (by omega) (by omega) (by omega)).mono ?_; rw [HRB.out]; rintro e w2 ⟨A2, n2, c2, rfl, hw2, hc2, hb2⟩; have B2 := Lib.hid (below_chain HB.out HB.out.size hb2); have W2 := Lib.hid (show Rd3 w2 A2 n2 f2 from hw2.rd); have V1 := Lib.hid (Rd3.below hA.out hb2); have z2 := B2.out.size; have hl2 : f2.length = n2 := Rd3.len hw2.rd; have hn2p : 0 < n2 := (by rw [← hl2]; exact List.length_pos_iff.2 HNE.out); obtain ⟨ad2, rfl, hab2, _⟩ := W2.out.2 (by omega); have HAB2 := Lib.hid hab2; have HC2 := Lib.hid (hd_cell W2.out hn2p); have HTL : an + n2 ≤ 60 := (by omega); clear hw2 hb2 hab2) | (go_at_call 45; refine (l11Own_c AA an ac all _ V1.out (by omega)).mono ?_; rintro e w3 ⟨A3, c3, rfl, ho3, hb3⟩; have O3 := Lib.hid ho3; have B3 := Lib.hid hb3; have z3 := hb3.size; clear ho3 hb3) | (at_builtin; refine wp_appFunc (by rfl) _ _ (by rfl) w2.heap.size A3 an c3 _ (by rfl) (by exact O3.out) (some ad2) n2 c2 f2 (by rfl) (by exact Rd3.below W2.out B3.out) (by omega) (by omega) ?_; intro A4 c4 w4 own4 hb4 hk4 hg4 hz4; have R4 := Lib.hid (show Rd3 w4 A4 (an + n2) (all ++ f2) from (by have h9 := own4.wrK.rd; rw [← List.flatMap_append] at h9; exact h9)); have hc4 : w4.cell? ⟨ad2.block, ad2.off + 1, none⟩ = some (i64 (hdA f2)) := keepB hb4 HAB2.out (keepc B3.out HC2.out); have BE := Lib.hid (below_chain B2.out z2 (B3.out.trans hb4)); have z4 := BE.out.size; clear own4 hb4 hk4 hg4 hz4) | (go_at_call 30; refine (l11Byte_c s (e2) _ 44 _ true _ hs (by omega) (by omega) (by omega) (by rfl) H4.out).mono ?_; rintro e w' ⟨rfl, rfl⟩) | (go_at_call 30; refine (l11Byte_c s (e2) _ 41 _ false _ hs (by omega) (by omega) (by omega) (by rfl) H5.out).mono ?_; rintro e w' ⟨rfl, rfl⟩))
        go_ret3
        rw [← HX.out]
        exact PzOut.bad BE.out
    cases isR
    · obtain rfl : b4 = false := by simpa using hend
      have HX := Lib.hid (show (((3, hdA f2, ((m + 1 : Nat) : Int)) : Nd3) :: (all ++ f2), e2 + 1, true) = R from HG.out)
      go_wp2_with (first | (go_at_call 18; refine (HCALL.out (next + 1) _ _ _ (by omega) (by omega) (by omega)).mono ?_; rw [HRB.out]; rintro e w2 ⟨A2, n2, c2, rfl, hw2, hc2, hb2⟩; have B2 := Lib.hid (below_chain HB.out HB.out.size hb2); have W2 := Lib.hid (show Rd3 w2 A2 n2 f2 from hw2.rd); have V1 := Lib.hid (Rd3.below hA.out hb2); have z2 := B2.out.size; have hl2 : f2.length = n2 := Rd3.len hw2.rd; have hn2p : 0 < n2 := (by rw [← hl2]; exact List.length_pos_iff.2 HNE.out); obtain ⟨ad2, rfl, hab2, _⟩ := W2.out.2 (by omega); have HAB2 := Lib.hid hab2; have HC2 := Lib.hid (hd_cell W2.out hn2p); have HTL : an + n2 ≤ 60 := (by omega); clear hw2 hb2 hab2) | (go_at_call 45; refine (l11Own_c AA an ac all _ V1.out (by omega)).mono ?_; rintro e w3 ⟨A3, c3, rfl, ho3, hb3⟩; have O3 := Lib.hid ho3; have B3 := Lib.hid hb3; have z3 := hb3.size; clear ho3 hb3) | (at_builtin; refine wp_appFunc (by rfl) _ _ (by rfl) w2.heap.size A3 an c3 _ (by rfl) (by exact O3.out) (some ad2) n2 c2 f2 (by rfl) (by exact Rd3.below W2.out B3.out) (by omega) (by omega) ?_; intro A4 c4 w4 own4 hb4 hk4 hg4 hz4; have R4 := Lib.hid (show Rd3 w4 A4 (an + n2) (all ++ f2) from (by have h9 := own4.wrK.rd; rw [← List.flatMap_append] at h9; exact h9)); have hc4 : w4.cell? ⟨ad2.block, ad2.off + 1, none⟩ = some (i64 (hdA f2)) := keepB hb4 HAB2.out (keepc B3.out HC2.out); have BE := Lib.hid (below_chain B2.out z2 (B3.out.trans hb4)); have z4 := BE.out.size; clear own4 hb4 hk4 hg4 hz4) | (go_at_call 30; refine (l11Byte_c s (e2) _ 44 _ false _ hs (by omega) (by omega) (by omega) (by rfl) H4.out).mono ?_; rintro e w' ⟨rfl, rfl⟩) | (go_at_call 30; refine (l11Byte_c s (e2) _ 41 _ true _ hs (by omega) (by omega) (by omega) (by rfl) H5.out).mono ?_; rintro e w' ⟨rfl, rfl⟩) | (at_builtin; refine wp_appFunc (by rfl) _ _ (by rfl) w.heap.size _ _ _ [i64 3, i64 (hdA f2), i64 ((m : Int) + 1)] (by rfl) (by rw [← World.size_alloc w4 (.cells #[i64 3, i64 (hdA f2), i64 ((m : Int) + 1)] 37)]; exact Own.fullK (by rw [World.size_alloc]; omega) rfl rfl (by omega)) A4 (an + n2) c4 (all ++ f2) (by rfl) (by refine Rd3.below R4.out ?_; repeat (first | exact below_size | refine Below.alloc ?_ (by first | omega | (simp; done) | (simp; omega)) _ | refine Below.setCell ?_ (by first | omega | (simp; done) | (simp; omega)) _)) (by omega) (by first | omega | (simp; done) | (simp; omega)) ?_; intro A6 c6 w6 own6 hb6 hk6 hg6 hz6))
      go_ret3
      rw [← HX.out]
      refine ⟨A6, 1 + (an + n2), c6, by simp, ?_, own6.cap, ?_⟩
      · have h9 := own6.wrK
        exact h9
      · refine Below.trans ?_ hb6
        repeat (first | exact BE.out | refine Below.alloc ?_ (by first | omega | (simp; done) | (simp; omega)) _ | refine Below.setCell ?_ (by first | omega | (simp; done) | (simp; omega)) _)
    · have HX := Lib.hid (show (((4, hdA f2 - 1, 0) : Nd3) :: (all ++ f2), e2 + 1, true) = R from HG.out)
      cases b4
      · go_wp2_with (first | (go_at_call 18; refine (HCALL.out (next + 1) _ _ _ (by omega) (by omega) (by omega)).mono ?_; rw [HRB.out]; rintro e w2 ⟨A2, n2, c2, rfl, hw2, hc2, hb2⟩; have B2 := Lib.hid (below_chain HB.out HB.out.size hb2); have W2 := Lib.hid (show Rd3 w2 A2 n2 f2 from hw2.rd); have V1 := Lib.hid (Rd3.below hA.out hb2); have z2 := B2.out.size; have hl2 : f2.length = n2 := Rd3.len hw2.rd; have hn2p : 0 < n2 := (by rw [← hl2]; exact List.length_pos_iff.2 HNE.out); obtain ⟨ad2, rfl, hab2, _⟩ := W2.out.2 (by omega); have HAB2 := Lib.hid hab2; have HC2 := Lib.hid (hd_cell W2.out hn2p); have HTL : an + n2 ≤ 60 := (by omega); clear hw2 hb2 hab2) | (go_at_call 45; refine (l11Own_c AA an ac all _ V1.out (by omega)).mono ?_; rintro e w3 ⟨A3, c3, rfl, ho3, hb3⟩; have O3 := Lib.hid ho3; have B3 := Lib.hid hb3; have z3 := hb3.size; clear ho3 hb3) | (at_builtin; refine wp_appFunc (by rfl) _ _ (by rfl) w2.heap.size A3 an c3 _ (by rfl) (by exact O3.out) (some ad2) n2 c2 f2 (by rfl) (by exact Rd3.below W2.out B3.out) (by omega) (by omega) ?_; intro A4 c4 w4 own4 hb4 hk4 hg4 hz4; have R4 := Lib.hid (show Rd3 w4 A4 (an + n2) (all ++ f2) from (by have h9 := own4.wrK.rd; rw [← List.flatMap_append] at h9; exact h9)); have hc4 : w4.cell? ⟨ad2.block, ad2.off + 1, none⟩ = some (i64 (hdA f2)) := keepB hb4 HAB2.out (keepc B3.out HC2.out); have BE := Lib.hid (below_chain B2.out z2 (B3.out.trans hb4)); have z4 := BE.out.size; clear own4 hb4 hk4 hg4 hz4) | (go_at_call 30; refine (l11Byte_c s (e2) _ 44 _ false _ hs (by omega) (by omega) (by omega) (by rfl) H4.out).mono ?_; rintro e w' ⟨rfl, rfl⟩) | (go_at_call 30; refine (l11Byte_c s (e2) _ 41 _ true _ hs (by omega) (by omega) (by omega) (by rfl) H5.out).mono ?_; rintro e w' ⟨rfl, rfl⟩) | (at_builtin; refine wp_appFunc (by rfl) _ _ (by rfl) w.heap.size _ _ _ [i64 4, i64 (hdA f2 - 1), i64 (0)] (by rfl) (by rw [← World.size_alloc w4 (.cells #[i64 4, i64 (hdA f2 - 1), i64 (0)] 37)]; exact Own.fullK (by rw [World.size_alloc]; omega) rfl rfl (by omega)) A4 (an + n2) c4 (all ++ f2) (by rfl) (by refine Rd3.below R4.out ?_; repeat (first | exact below_size | refine Below.alloc ?_ (by first | omega | (simp; done) | (simp; omega)) _ | refine Below.setCell ?_ (by first | omega | (simp; done) | (simp; omega)) _)) (by omega) (by first | omega | (simp; done) | (simp; omega)) ?_; intro A6 c6 w6 own6 hb6 hk6 hg6 hz6))
        go_ret3
        rw [← HX.out]
        refine ⟨A6, 1 + (an + n2), c6, by simp, ?_, own6.cap, ?_⟩
        · have h9 := own6.wrK
          exact h9
        · refine Below.trans ?_ hb6
          repeat (first | exact BE.out | refine Below.alloc ?_ (by first | omega | (simp; done) | (simp; omega)) _ | refine Below.setCell ?_ (by first | omega | (simp; done) | (simp; omega)) _)
      · go_wp2_with (first | (go_at_call 18; refine (HCALL.out (next + 1) _ _ _ (by omega) (by omega) (by omega)).mono ?_; rw [HRB.out]; rintro e w2 ⟨A2, n2, c2, rfl, hw2, hc2, hb2⟩; have B2 := Lib.hid (below_chain HB.out HB.out.size hb2); have W2 := Lib.hid (show Rd3 w2 A2 n2 f2 from hw2.rd); have V1 := Lib.hid (Rd3.below hA.out hb2); have z2 := B2.out.size; have hl2 : f2.length = n2 := Rd3.len hw2.rd; have hn2p : 0 < n2 := (by rw [← hl2]; exact List.length_pos_iff.2 HNE.out); obtain ⟨ad2, rfl, hab2, _⟩ := W2.out.2 (by omega); have HAB2 := Lib.hid hab2; have HC2 := Lib.hid (hd_cell W2.out hn2p); have HTL : an + n2 ≤ 60 := (by omega); clear hw2 hb2 hab2) | (go_at_call 45; refine (l11Own_c AA an ac all _ V1.out (by omega)).mono ?_; rintro e w3 ⟨A3, c3, rfl, ho3, hb3⟩; have O3 := Lib.hid ho3; have B3 := Lib.hid hb3; have z3 := hb3.size; clear ho3 hb3) | (at_builtin; refine wp_appFunc (by rfl) _ _ (by rfl) w2.heap.size A3 an c3 _ (by rfl) (by exact O3.out) (some ad2) n2 c2 f2 (by rfl) (by exact Rd3.below W2.out B3.out) (by omega) (by omega) ?_; intro A4 c4 w4 own4 hb4 hk4 hg4 hz4; have R4 := Lib.hid (show Rd3 w4 A4 (an + n2) (all ++ f2) from (by have h9 := own4.wrK.rd; rw [← List.flatMap_append] at h9; exact h9)); have hc4 : w4.cell? ⟨ad2.block, ad2.off + 1, none⟩ = some (i64 (hdA f2)) := keepB hb4 HAB2.out (keepc B3.out HC2.out); have BE := Lib.hid (below_chain B2.out z2 (B3.out.trans hb4)); have z4 := BE.out.size; clear own4 hb4 hk4 hg4 hz4) | (go_at_call 30; refine (l11Byte_c s (e2) _ 44 _ true _ hs (by omega) (by omega) (by omega) (by rfl) H4.out).mono ?_; rintro e w' ⟨rfl, rfl⟩) | (go_at_call 30; refine (l11Byte_c s (e2) _ 41 _ true _ hs (by omega) (by omega) (by omega) (by rfl) H5.out).mono ?_; rintro e w' ⟨rfl, rfl⟩) | (at_builtin; refine wp_appFunc (by rfl) _ _ (by rfl) w.heap.size _ _ _ [i64 4, i64 (hdA f2 - 1), i64 (0)] (by rfl) (by rw [← World.size_alloc w4 (.cells #[i64 4, i64 (hdA f2 - 1), i64 (0)] 37)]; exact Own.fullK (by rw [World.size_alloc]; omega) rfl rfl (by omega)) A4 (an + n2) c4 (all ++ f2) (by rfl) (by refine Rd3.below R4.out ?_; repeat (first | exact below_size | refine Below.alloc ?_ (by first | omega | (simp; done) | (simp; omega)) _ | refine Below.setCell ?_ (by first | omega | (simp; done) | (simp; omega)) _)) (by omega) (by first | omega | (simp; done) | (simp; omega)) ?_; intro A6 c6 w6 own6 hb6 hk6 hg6 hz6))
        go_ret3
        rw [← HX.out]
        refine ⟨A6, 1 + (an + n2), c6, by simp, ?_, own6.cap, ?_⟩
        · have h9 := own6.wrK
          exact h9
        · refine Below.trans ?_ hb6
          repeat (first | exact BE.out | refine Below.alloc ?_ (by first | omega | (simp; done) | (simp; omega)) _ | refine Below.setCell ?_ (by first | omega | (simp; done) | (simp; omega)) _)
end Go.Proofs.YtnoapoaajidncaaDoor
