/-
  Reading while programs: the reference's reader of commands (l22ReadAll, ReadWhile).
-/
import Derived.Test.YtkchgjegdmcnaaaDoorCRa
import Derived.Test.YtkchgjegdmcnaaaDoorCVb
namespace Go.Proofs.YtkchgjegdmcnaaaDoor
open Go.RowKit

theorem run_ixI {k : Nat} {s : List UInt8} {c : UInt8} {x i : Int} (h : s[k]? = some c) (hx : (c.toNat : Int) = x) (hi : i = (k : Int)) (w : World) : (Instr.index 9 (.string (bs s)) (.int .i64 i)).run Tryd.prog w = .ok (.int .u8 x) w := by subst hi; exact run_ixS h hx w
/-- the offset behind is no smaller -/
theorem sxB_lo {s : List UInt8} {d : Nat} {body : Nat → RdC} (hb : ∀ q, (body q).2.2 = true → q ≤ (body q).2.1) : ∀ (F : Nat) (out : List Cmd) (k : Nat), (sxB s d body F out k).2.2 = true → k ≤ (sxB s d body F out k).2.1
  | 0, out, k, _ => by rw [sxB]; exact Nat.le_refl _
  | F + 1, out, k, h => by
    by_cases h1 : s[k]? = none ∨ s[k]? = some 125
    · rw [sxB_end h1]; exact Nat.le_refl _
    by_cases h2 : 80 < out.length ∨ d = 0
    · rw [sxB_bad h1 h2] at h; cases h
    rw [sxB_go h1 h2] at h ⊢
    obtain ⟨k1, hk1⟩ : ∃ k1, (if out = [] then k else k + 1) = k1 := ⟨_, rfl⟩
    have hkk : k ≤ k1 := by rw [← hk1]; split <;> omega
    rw [hk1] at h ⊢
    cases hc : s[k1]? with
    | none => rw [sxC_none hc] at h; cases h
    | some c =>
      by_cases h119 : c = 119
      · subst h119
        rw [sxC_while hc] at h ⊢
        split at h
        · rename_i e1
          rw [if_pos e1]
          split at h
          · rename_i e2
            rw [if_pos e2]
            have f1 := (sxE_bd s 40 (k1 + 1)).ok e1
            have f2 := hb _ e2
            have f3 := sxB_lo hb F _ _ h
            omega
          · cases h
        · cases h
      · rw [sxC_set hc h119] at h ⊢
        split at h
        · rename_i e1
          rw [if_pos e1]
          have f1 := (sxE_bd s 40 (k1 + 2)).ok e1
          have f3 := sxB_lo hb F _ _ h
          omega
        · cases h
theorem sxA_lo (s : List UInt8) : ∀ (d k : Nat), (sxA s d k).2.2 = true → k ≤ (sxA s d k).2.1
  | 0, k, h => sxB_lo (fun q h => by cases h) _ _ _ h
  | d + 1, k, h => sxB_lo (fun q h => sxA_lo s d q h) _ _ _ h
theorem set_read {s : List UInt8} {body : Nat → RdC} {go : List Cmd → Nat → RdC} {out : List Cmd} {k q : Nat} {c : UInt8} {x : Int} {xs : List (Int × Int)} (h : s[k]? = some c) (hc : c ≠ 119) (hx : (c.toNat : Int) = x) (he : sxE s 40 (k + 2) = (xs, q, true)) : sxC s body go out k = go (out ++ [(0, x - 48, 0, xs)]) q := by
  rw [sxC_set h hc, he, if_pos rfl, hx]
theorem set_bad {s : List UInt8} {body : Nat → RdC} {go : List Cmd → Nat → RdC} {out : List Cmd} {k q : Nat} {c : UInt8} {xs : List (Int × Int)} (h : s[k]? = some c) (hc : c ≠ 119) (he : sxE s 40 (k + 2) = (xs, q, false)) : sxC s body go out k = ([], k, false) := by
  rw [sxC_set h hc, he, if_neg (by simp)]
theorem while_bad1 {s : List UInt8} {body : Nat → RdC} {go : List Cmd → Nat → RdC} {out : List Cmd} {k q : Nat} {xs : List (Int × Int)} (h : s[k]? = some 119) (he : sxE s 40 (k + 1) = (xs, q, false)) : sxC s body go out k = ([], k, false) := by
  rw [sxC_while h, he, if_neg (by simp)]
theorem while_bad2 {s : List UInt8} {body : Nat → RdC} {go : List Cmd → Nat → RdC} {out B : List Cmd} {k q z : Nat} {xs : List (Int × Int)} (h : s[k]? = some 119) (he : sxE s 40 (k + 1) = (xs, q, true)) (hb : body (q + 1) = (B, z, false)) : sxC s body go out k = ([], k, false) := by
  rw [sxC_while h, he, if_pos rfl]
  simp only [hb]
  rw [if_neg (by simp)]
theorem while_read {s : List UInt8} {body : Nat → RdC} {go : List Cmd → Nat → RdC} {out B : List Cmd} {k q z : Nat} {xs : List (Int × Int)} (h : s[k]? = some 119) (he : sxE s 40 (k + 1) = (xs, q, true)) (hb : body (q + 1) = (B, z, true)) : sxC s body go out k = go (out ++ (1, 0, (B.length : Int), xs) :: B) (z + 1) := by
  rw [sxC_while h, he, if_pos rfl]
  simp only [hb]
  rw [if_pos trivial]
theorem l22ReadExpr_i (s : List UInt8) (hs : s.length ≤ 1048576) (k : Nat) (ki : Int) (w : World) (hk : k ≤ 2000000) (h : ki = k) : Calls Tryd.prog 43 #[.string (bs s), .int .i64 ki, .int .i64 40] w (RxOut (sxE s 40 k) w) := by
  subst h; exact l22ReadExpr_c s hs 40 k w (by omega) hk
/-- commands that were read, the offset behind them, whether they are some -/
def RcmOut (K N : Nat) (r : RdC) (w : World) (e : Ending) (w' : World) : Prop :=
  ∃ A n c js, e = .returned (.tuple #[.slice A n c, .int .i64 (r.2.1 : Int), .bool r.2.2]) ∧ OwnCs w' w.heap.size A n c js ∧ js.map datC = r.1 ∧ (∀ t ∈ js, t.n ≤ t.c ∧ t.n ≤ 1048576) ∧ n ≤ N ∧ r.2.1 ≤ K ∧ Below w.heap.size w w'
theorem RcmOut.bad {w w' : World} {k K N : Nat} {z : Int} (h : Below w.heap.size w w') (hk : k ≤ K) (hz : z = k) : RcmOut K N ([], k, false) w (.returned (.tuple #[.slice none 0 0, .int .i64 z, .bool false])) w' := by
  subst hz
  exact ⟨none, 0, 0, [], rfl, OwnS.nil Own.nil, rfl, (fun t ht => by cases ht), by omega, hk, h⟩
theorem OwnCs.len {w : World} {B : Nat} {A : Option Addr} {n c : Nat} {js : List Ct} (h : OwnCs w B A n c js) : js.length = n := by
  have h1 := h.own.len
  rw [flatX_len hdC 4 hdC_len] at h1; omega
theorem noexit {s : List UInt8} {k : Nat} {c : UInt8} (hc : s[k]? = some c) (h : c ≠ 125) : ¬ (s[k]? = none ∨ s[k]? = some 125) := by
  rw [hc]
  rintro (e | e)
  · cases e
  · injection e with e; exact h e
/-- the reader at a depth -/
def RaC (s : List UInt8) (d : Nat) : Prop := ∀ (k : Nat) (ki di : Int) (w : World), k ≤ s.length + 1 → ki = k → di = d → Calls Tryd.prog 24 #[.string (bs s), .int .i64 ki, .int .i64 di] w (RcmOut (s.length + d + 2) (81 + 81 * d) (sxA s d k) w)
set_option maxHeartbeats 8000000 in
set_option maxRecDepth 100000 in
theorem l22ReadAll_s (s : List UInt8) (hs : s.length ≤ 1048576) (d : Nat) (hd : d ≤ 80) (IH : ∀ d', d = d' + 1 → RaC s d') : RaC s d := by
  intro k0 ki di w hk hki hdi
  subst hki hdi
  obtain ⟨n, hn⟩ : ∃ n, (bs s).size = n := ⟨_, rfl⟩
  have hln : s.length = n := by rw [← hn, bs_size]
  have HLN := Lib.hid hln
  obtain ⟨R, hR⟩ : ∃ R, sxA s d k0 = R := ⟨_, rfl⟩
  rw [hR]
  have HR := Lib.hid (show sxB s d (bodyS s d) (s.length + 1) [] k0 = R by rw [← sxA_eq]; exact hR)
  have HIH := Lib.hid IH
  have HS := Lib.hid hs
  have hkn : k0 ≤ n + 1 := by omega
  have hn2 : n ≤ 1048576 := by omega
  clear hR hln hk hs IH
  go_enter Tryd.func24, Tryd.ntmps24
  go_wp2_with fail
  go_loopw [1, 9] (fun kv ov wr => ∃ (k m cc F : Nat) (O : Option Addr) (js : List Ct), k ≤ n + d + 2 ∧ m ≤ 81 + 81 * d ∧ kv = .int .i64 k ∧ ov = .slice O m cc ∧ Hid (sxB s d (bodyS s d) F (js.map datC) k = R) ∧ Hid (n < F + k) ∧ Hid (OwnCs wr w.heap.size O m cc js) ∧ Hid (∀ t ∈ js, t.n ≤ t.c ∧ t.n ≤ 1048576) ∧ Below w.heap.size w wr) (fun kv _ _ => n + d + 3 - (intOf kv).toNat)
  case atStart => exact ⟨k0, 0, 0, s.length + 1, some ⟨w.heap.size, 0, none⟩, [], by omega, by omega, rfl, rfl, HR.out, by have := HLN.out; unfold Hid; omega, OwnS.nil (Own.litK (Nat.le_refl _)), (fun t ht => by cases ht), below_size.alloc (Nat.le_refl _) _⟩
  case round =>
    clear HR hkn
    obtain ⟨k, m, cc, F, O, js, hkb, hmb, rfl, rfl, hM, hF, hO, hj, hb⟩ := hrel
    have HB := Lib.hid hb
    have hzr := hb.size
    clear hb
    by_cases h : n ≤ k
    · have HG := Lib.hid (show ((js.map datC, k, true) : RdC) = R by rw [← hM.out, sxB_end (.inl (List.getElem?_eq_none (by rw [HLN.out]; exact h)))])
      clear hM
      go_wp2_with fail
      go_ret3
      rw [← HG.out]
      exact ⟨O, m, cc, js, rfl, hO.out, rfl, hj.out, hmb, by have := HLN.out; show k ≤ s.length + d + 2; omega, HB.out⟩
    obtain ⟨c, hc⟩ : ∃ c, s[k]? = some c := ⟨_, List.getElem?_eq_getElem (by rw [HLN.out]; omega)⟩
    obtain ⟨x, hx⟩ : ∃ x : Int, (c.toNat : Int) = x := ⟨_, rfl⟩
    have hix := fun w => run_ixS hc hx w
    have H125 := Lib.hid (show c = 125 ↔ x = 125 by rw [← hx]; exact u8_eq (d := 125) (by omega))
    by_cases h2 : x = 125
    · have HG := Lib.hid (show ((js.map datC, k, true) : RdC) = R by rw [← hM.out, sxB_end (.inr (by rw [hc, H125.out.2 h2]))])
      have g2 : (x != 125) = false := by simpa using h2
      clear hM hc hx h2
      go_wp2_with fail
      go_ret3
      rw [← HG.out]
      exact ⟨O, m, cc, js, rfl, hO.out, rfl, hj.out, hmb, by have := HLN.out; show k ≤ s.length + d + 2; omega, HB.out⟩
    have g2 : (x != 125) = true := by simpa using h2
    have HNE := Lib.hid (noexit hc (fun e => h2 (H125.out.1 e)))
    obtain ⟨F, rfl⟩ : ∃ F', F = F' + 1 := ⟨F - 1, by have := hF.out; omega⟩
    have hjl := OwnCs.len hO.out
    by_cases h80 : 80 < m ∨ d = 0
    · have HG := Lib.hid (show (([], k, false) : RdC) = R by rw [← hM.out, sxB_bad HNE.out (by rw [List.length_map, hjl]; exact h80)])
      clear hM hc hx h2 hjl HNE hF hO hj
      rcases h80 with h80 | rfl
      · go_wp2_with fail
        go_ret3
        rw [← HG.out]
        exact RcmOut.bad HB.out (by have := HLN.out; omega) rfl
      · by_cases h81 : 80 < m
        · go_wp2_with fail
          go_ret3
          rw [← HG.out]
          exact RcmOut.bad HB.out (by have := HLN.out; omega) rfl
        · go_wp2_with fail
          go_ret3
          rw [← HG.out]
          exact RcmOut.bad HB.out (by have := HLN.out; omega) rfl
    have h80m : m ≤ 80 := by omega
    obtain ⟨p, hp⟩ : ∃ p, d = p + 1 := ⟨d - 1, by omega⟩
    have HP := Lib.hid hp
    have hp79 : p ≤ 79 := by omega
    have HCB := Lib.hid (HIH.out p hp)
    have e80 : decide ((80 : Int) < (m : Int)) = false := by rw [decide_eq_false_iff_not]; omega
    have ed0 : ((d : Int) == 0) = false := by rw [beq_eq_false_iff_ne]; omega
    have vd : IntKind.i64.wrap ((d : Int) - 1) = (d : Int) - 1 := IntWalk.i64_in _ (by omega)
    have HM := Lib.hid (show sxC s (sxA s p) (sxB s d (bodyS s d) F) (js.map datC) (if js.map datC = [] then k else k + 1) = R by rw [← hM.out, sxB_go HNE.out (by rw [List.length_map, hjl]; exact h80)]; subst hp; rfl)
    have HF := Lib.hid (show n < F + 1 + k from hF.out)
    have hkn : k < n := by omega
    clear hM h80 HIH HNE hF hp
    by_cases hm : 0 < m
    · have hne : js.map datC ≠ [] := fun e => by have := congrArg List.length e; rw [List.length_map, hjl] at this; simp at this; omega
      have HM := Lib.hid (show sxC s (sxA s p) (sxB s d (bodyS s d) F) (js.map datC) (k + 1) = R by rw [← HM.out, if_neg hne])
      clear hne hjl
      by_cases hk1 : n ≤ k + 1
      · have HG := Lib.hid (show (([], k + 1, false) : RdC) = R by rw [← HM.out, sxC_none (List.getElem?_eq_none (by rw [HLN.out]; exact hk1))])
        have ek : decide ((n : Int) ≤ (k : Int) + 1) = true := by rw [decide_eq_true_eq]; omega
        clear HM hk1
        go_wp2_with fail
        go_ret3
        rw [← HG.out]
        exact RcmOut.bad HB.out (by have := HLN.out; omega) (by omega)
      have ek : decide ((n : Int) ≤ (k : Int) + 1) = false := by rw [decide_eq_false_iff_not]; omega
      obtain ⟨c1, hc1⟩ : ∃ c, s[k + 1]? = some c := ⟨_, List.getElem?_eq_getElem (by rw [HLN.out]; omega)⟩
      obtain ⟨x1, hx1⟩ : ∃ x : Int, (c1.toNat : Int) = x := ⟨_, rfl⟩
      have hix1 := fun w => run_ixI (i := (k : Int) + 1) hc1 hx1 (by omega) w
      have H119 := Lib.hid (show c1 = 119 ↔ x1 = 119 by rw [← hx1]; exact u8_eq (d := 119) (by omega))
      have hx2 : 0 ≤ x1 ∧ x1 ≤ 255 := by have := UInt8.toNat_lt c1; omega
      have HC1 := Lib.hid hc1; have HX1 := Lib.hid hx1
      clear hc hx h2 hc1 hx1
      by_cases hw : x1 = 119
      · subst hw
        obtain ⟨⟨xs, q, ok⟩, hr⟩ : ∃ r, sxE s 40 (k + 1 + 1) = r := ⟨_, rfl⟩
        have hbd := sxE_bd s 40 (k + 1 + 1)
        rw [hr] at hbd
        have b1 := hbd.ok; have b2 := hbd.len
        simp only at b1 b2
        have HRA := Lib.hid hr
        have HCW := Lib.hid (show s[k + 1]? = some 119 by rw [HC1.out, H119.out.2 rfl])
        have HLS := HLN.out
        clear hbd hr
        cases ok
        · have HG := Lib.hid (show (([], k + 1, false) : RdC) = R by rw [← HM.out, while_bad1 HCW.out HRA.out])
          clear HM b1
          go_wp2_with fail
          refine (l22ReadExpr_i s HS.out (k + 1 + 1) _ _ (by omega) (by omega)).mono ?_
          rw [HRA.out]
          rintro e w5 ⟨A5, n5, c5, rfl, hw5, hc5, hb5⟩
          have B5 := Lib.hid (below_chain HB.out hzr hb5)
          clear hw5 hb5
          go_wp2_with fail
          go_ret3
          rw [← HG.out]
          exact RcmOut.bad B5.out (by omega) (by omega)
        obtain ⟨b3, b4⟩ := b1 rfl
        obtain ⟨⟨bl, z, ok2⟩, hr2⟩ : ∃ r, sxA s p (q + 1) = r := ⟨_, rfl⟩
        have hlo := sxA_lo s p (q + 1)
        rw [hr2] at hlo
        simp only at hlo
        have HRB := Lib.hid hr2
        clear hr2 b1
        cases ok2
        · have HG := Lib.hid (show (([], k + 1, false) : RdC) = R by rw [← HM.out, while_bad2 HCW.out HRA.out HRB.out])
          clear HM hlo
          go_wp2_with fail
          refine (l22ReadExpr_i s HS.out (k + 1 + 1) _ _ (by omega) (by omega)).mono ?_
          rw [HRA.out]
          rintro e w5 ⟨A5, n5, c5, rfl, hw5, hc5, hb5⟩
          have B5 := Lib.hid (below_chain HB.out hzr hb5)
          clear hw5 hb5
          go_wp2_with fail
          refine (HCB.out (q + 1) _ _ _ (by omega) (by omega) (by have := HP.out; omega)).mono ?_
          rw [HRB.out]
          rintro e w7 ⟨A7, n7, c7, bs7, rfl, hO7, hj7, ht7, hn7, hz7, hb7⟩
          have B7 := Lib.hid (below_chain B5.out B5.out.size hb7)
          clear hO7 hb7
          go_wp2_with fail
          go_ret3
          rw [← HG.out]
          exact RcmOut.bad B7.out (by omega) (by omega)
        have hlo := hlo rfl
        have HM2 := Lib.hid (show sxB s d (bodyS s d) F (js.map datC ++ (1, 0, (bl.length : Int), xs) :: bl) (z + 1) = R by rw [← HM.out, while_read HCW.out HRA.out HRB.out])
        clear HM
        go_wp2_with fail
        refine (l22ReadExpr_i s HS.out (k + 1 + 1) _ _ (by omega) (by omega)).mono ?_
        rw [HRA.out]
        rintro e w5 ⟨A5, n5, c5, rfl, hw5, hc5, hb5⟩
        have B5 := Lib.hid hb5
        have z5 := hb5.size
        have W5 := Lib.hid (show Wr w5 wr.heap.size w5.heap.size A5 (n5 * 2) (xs.flatMap enc2) from hw5)
        have hl5 : xs.length = n5 := Rd2.len hw5.rd
        clear hw5 hb5
        go_wp2_with fail
        refine (HCB.out (q + 1) _ _ _ (by omega) (by omega) (by have := HP.out; omega)).mono ?_
        rw [HRB.out]
        rintro e w7 ⟨A7, n7, c7, bs7, rfl, hO7, hj7, ht7, hn7, hz7, hb7⟩
        have B7 := Lib.hid (below_chain B5.out z5 hb7)
        have z7 := hb7.size
        have V5 := Lib.hid (W5.out.below hb7)
        have O7 := Lib.hid hO7; have J7 := Lib.hid hj7; have T7 := Lib.hid ht7
        have HBL := Lib.hid (show bl.length = n7 by have h9 : bs7.map datC = bl := hj7; rw [← h9, List.length_map, OwnCs.len hO7])
        simp only at hz7
        clear hO7 hj7 ht7 hb7
        go_wp2_with (at_builtin; first
          | (refine wp_appCmdG (by rfl) _ _ (by rfl) w.heap.size O _ cc js (by rfl) (by exact (hO.out.keep B7.out).alloc _) wr.heap.size hzr hO.out.bndA (fun s hs a ha hn => (hO.out.bndS s hs a ha hn).2) w7.heap.size ⟨1, 0, (n7 : Int), A5, n5, c5, xs⟩ (by rfl) (by exact Blk.new _ _ _) (by exact (V5.out.alloc _).wider (Nat.le_refl _) (by simp; omega)) (by omega) (by simp; omega) ?_; intro A8 c8 w8 own8 hb8 hk8 hg8 hz8; have hap := cmds_apart (t := ⟨1, 0, (n7 : Int), A5, n5, c5, xs⟩) hO.out.bndA (fun s hs a ha hn => (hO.out.bndS s hs a ha hn).2) (fun a ha hn => by obtain ⟨a', e', _, h9, _⟩ := W5.out.2 hn; have e2 : A5 = some a := ha; rw [e2] at e'; injection e' with e'; subst e'; exact h9) z5 (O7.out.alloc _) hg8; have O8 := Lib.hid own8; have B8 := Lib.hid hb8; have AP := Lib.hid hap; have P8 := Lib.hid ((O7.out.alloc _).move (fun b h1 h2 => hk8 b h2 (fun ad ha => by have := hO.out.bndA ad ha; omega)) hz8); have z8 := hz8; clear own8 hb8 hk8 hg8 hz8 hap)
          | (refine wp_appCmdsG (by rfl) _ _ (by rfl) w.heap.size A8 _ c8 (js ++ [⟨1, 0, (n7 : Int), A5, n5, c5, xs⟩]) (by rfl) O8.out w5.heap.size (by omega) A7 n7 c7 bs7 (by rfl) P8.out AP.out.1 AP.out.2 (by omega) (by simp at z8; omega) ?_; intro A9 c9 w9 own9 hb9 hz9 hk9))
        have O9 := Lib.hid own9
        have B9 := Lib.hid (((below_chain HB.out hzr (B7.out.alloc (by omega) _)).trans B8.out).trans hb9)
        clear own9 hb9 hk9 hz9
        go_wp2_with fail
        go_roundw
        case rel =>
          refine ⟨z + 1, _, c9, F, A9, (js ++ [(⟨1, 0, (n7 : Int), A5, n5, c5, xs⟩ : Ct)]) ++ bs7, by have := HP.out; omega, ?_, by go_num, rfl, ?_, by have := HF.out; unfold Hid; omega, O9.out, ?_, B9.out⟩
          · have := HP.out; omega
          · unfold Hid; rw [List.map_append, List.map_append, J7.out, List.append_assoc]; have := HM2.out; rw [HBL.out] at this; exact this
          · intro t ht
            rcases List.mem_append.1 ht with ht | ht
            · rcases List.mem_append.1 ht with ht | ht
              · exact hj.out t ht
              · rw [List.mem_singleton] at ht; subst ht; exact ⟨hc5, by show n5 ≤ 1048576; omega⟩
            · exact T7.out t ht
        case measure => simp [intOf]; omega
      · have gw : (x1 == 119) = false := by simpa using hw
        have HW := Lib.hid hw
        clear hw
        obtain ⟨⟨xs, q, ok⟩, hr⟩ : ∃ r, sxE s 40 (k + 1 + 2) = r := ⟨_, rfl⟩
        have hbd := sxE_bd s 40 (k + 1 + 2)
        rw [hr] at hbd
        have b1 := hbd.ok; have b2 := hbd.len
        simp only at b1 b2
        have HRA := Lib.hid hr
        have HCN := Lib.hid (show c1 ≠ 119 from fun e => HW.out (H119.out.1 e))
        have HLS := HLN.out
        clear hbd hr
        cases ok
        · have HG := Lib.hid (show (([], k + 1, false) : RdC) = R by rw [← HM.out, set_bad HC1.out HCN.out HRA.out])
          clear HM b1
          go_wp2_with fail
          refine (l22ReadExpr_i s HS.out (k + 1 + 2) _ _ (by omega) (by omega)).mono ?_
          rw [HRA.out]
          rintro e w5 ⟨A5, n5, c5, rfl, hw5, hc5, hb5⟩
          have B5 := Lib.hid (below_chain HB.out hzr hb5)
          clear hw5 hb5
          go_wp2_with fail
          go_ret3
          rw [← HG.out]
          exact RcmOut.bad B5.out (by omega) (by omega)
        obtain ⟨b3, b4⟩ := b1 rfl
        have HM2 := Lib.hid (show sxB s d (bodyS s d) F (js.map datC ++ [(0, x1 - 48, 0, xs)]) q = R by rw [← HM.out, set_read HC1.out HCN.out HX1.out HRA.out])
        have v2 : IntKind.i64.wrap (x1 - 48) = x1 - 48 := IntWalk.i64_in _ (by omega)
        clear HM b1
        go_wp2_with fail
        refine (l22ReadExpr_i s HS.out (k + 1 + 2) _ _ (by omega) (by omega)).mono ?_
        rw [HRA.out]
        rintro e w5 ⟨A5, n5, c5, rfl, hw5, hc5, hb5⟩
        have B5 := Lib.hid hb5
        have z5 := hb5.size
        have W5 := Lib.hid (show Wr w5 wr.heap.size w5.heap.size A5 (n5 * 2) (xs.flatMap enc2) from hw5)
        have hl5 : xs.length = n5 := Rd2.len hw5.rd
        clear hw5 hb5
        go_wp2_with (at_builtin; refine wp_appCmdG (by rfl) _ _ (by rfl) w.heap.size O _ cc js (by rfl) (by exact (hO.out.keep B5.out).alloc _) wr.heap.size hzr hO.out.bndA (fun s hs a ha hn => (hO.out.bndS s hs a ha hn).2) w5.heap.size ⟨0, x1 - 48, 0, A5, n5, c5, xs⟩ (by rfl) (by exact Blk.new _ _ _) (by exact (W5.out.alloc _).wider (Nat.le_refl _) (by simp)) (by omega) (by simp; omega) ?_; intro A6 c6 w6 own6 hb6 hk6 hg6 hz6)
        have O6 := Lib.hid own6; have B6 := Lib.hid ((below_chain HB.out hzr (B5.out.alloc z5 _)).trans hb6)
        clear own6 hb6 hk6 hg6 hz6
        go_wp2_with fail
        go_roundw
        case rel =>
          refine ⟨q, _, c6, F, A6, js ++ [(⟨0, x1 - 48, 0, A5, n5, c5, xs⟩ : Ct)], by omega, by omega, rfl, rfl, ?_, by have := HF.out; unfold Hid; omega, O6.out, ?_, B6.out⟩
          · unfold Hid; rw [List.map_append]; exact HM2.out
          · intro t ht
            rcases List.mem_append.1 ht with ht | ht
            · exact hj.out t ht
            · rw [List.mem_singleton] at ht; subst ht; exact ⟨hc5, by show n5 ≤ 1048576; omega⟩
        case measure => simp [intOf]; omega
    · obtain rfl : m = 0 := by omega
      have hje : js = [] := List.length_eq_zero_iff.1 hjl
      have HM := Lib.hid (show sxC s (sxA s p) (sxB s d (bodyS s d) F) (js.map datC) k = R by rw [← HM.out, if_pos (by rw [hje]; rfl)])
      obtain ⟨c1, hc1⟩ : ∃ c1, c1 = c := ⟨_, rfl⟩
      obtain ⟨x1, hx1⟩ : ∃ x1, x1 = x := ⟨_, rfl⟩
      clear hje hjl
      have HC1 := Lib.hid (show s[k]? = some c1 by rw [hc1]; exact hc); have HX1 := Lib.hid (show (c1.toNat : Int) = x1 by rw [hc1, hx1]; exact hx)
      subst hx1
      have H119 := Lib.hid (show c1 = 119 ↔ x1 = 119 by rw [← HX1.out]; exact u8_eq (d := 119) (by omega))
      have hx2 : 0 ≤ x1 ∧ x1 ≤ 255 := by have := UInt8.toNat_lt c1; have := HX1.out; omega
      clear hc hx h2 hc1
      by_cases hw : x1 = 119
      · subst hw
        obtain ⟨⟨xs, q, ok⟩, hr⟩ : ∃ r, sxE s 40 (k + 1) = r := ⟨_, rfl⟩
        have hbd := sxE_bd s 40 (k + 1)
        rw [hr] at hbd
        have b1 := hbd.ok; have b2 := hbd.len
        simp only at b1 b2
        have HRA := Lib.hid hr
        have HCW := Lib.hid (show s[k]? = some 119 by rw [HC1.out, H119.out.2 rfl])
        have HLS := HLN.out
        clear hbd hr
        cases ok
        · have HG := Lib.hid (show (([], k, false) : RdC) = R by rw [← HM.out, while_bad1 HCW.out HRA.out])
          clear HM b1
          go_wp2_with fail
          refine (l22ReadExpr_i s HS.out (k + 1) _ _ (by omega) (by omega)).mono ?_
          rw [HRA.out]
          rintro e w5 ⟨A5, n5, c5, rfl, hw5, hc5, hb5⟩
          have B5 := Lib.hid (below_chain HB.out hzr hb5)
          clear hw5 hb5
          go_wp2_with fail
          go_ret3
          rw [← HG.out]
          exact RcmOut.bad B5.out (by omega) (by omega)
        obtain ⟨b3, b4⟩ := b1 rfl
        obtain ⟨⟨bl, z, ok2⟩, hr2⟩ : ∃ r, sxA s p (q + 1) = r := ⟨_, rfl⟩
        have hlo := sxA_lo s p (q + 1)
        rw [hr2] at hlo
        simp only at hlo
        have HRB := Lib.hid hr2
        clear hr2 b1
        cases ok2
        · have HG := Lib.hid (show (([], k, false) : RdC) = R by rw [← HM.out, while_bad2 HCW.out HRA.out HRB.out])
          clear HM hlo
          go_wp2_with fail
          refine (l22ReadExpr_i s HS.out (k + 1) _ _ (by omega) (by omega)).mono ?_
          rw [HRA.out]
          rintro e w5 ⟨A5, n5, c5, rfl, hw5, hc5, hb5⟩
          have B5 := Lib.hid (below_chain HB.out hzr hb5)
          clear hw5 hb5
          go_wp2_with fail
          refine (HCB.out (q + 1) _ _ _ (by omega) (by omega) (by have := HP.out; omega)).mono ?_
          rw [HRB.out]
          rintro e w7 ⟨A7, n7, c7, bs7, rfl, hO7, hj7, ht7, hn7, hz7, hb7⟩
          have B7 := Lib.hid (below_chain B5.out B5.out.size hb7)
          clear hO7 hb7
          go_wp2_with fail
          go_ret3
          rw [← HG.out]
          exact RcmOut.bad B7.out (by omega) (by omega)
        have hlo := hlo rfl
        have HM2 := Lib.hid (show sxB s d (bodyS s d) F (js.map datC ++ (1, 0, (bl.length : Int), xs) :: bl) (z + 1) = R by rw [← HM.out, while_read HCW.out HRA.out HRB.out])
        clear HM
        go_wp2_with fail
        refine (l22ReadExpr_i s HS.out (k + 1) _ _ (by omega) (by omega)).mono ?_
        rw [HRA.out]
        rintro e w5 ⟨A5, n5, c5, rfl, hw5, hc5, hb5⟩
        have B5 := Lib.hid hb5
        have z5 := hb5.size
        have W5 := Lib.hid (show Wr w5 wr.heap.size w5.heap.size A5 (n5 * 2) (xs.flatMap enc2) from hw5)
        have hl5 : xs.length = n5 := Rd2.len hw5.rd
        clear hw5 hb5
        go_wp2_with fail
        refine (HCB.out (q + 1) _ _ _ (by omega) (by omega) (by have := HP.out; omega)).mono ?_
        rw [HRB.out]
        rintro e w7 ⟨A7, n7, c7, bs7, rfl, hO7, hj7, ht7, hn7, hz7, hb7⟩
        have B7 := Lib.hid (below_chain B5.out z5 hb7)
        have z7 := hb7.size
        have V5 := Lib.hid (W5.out.below hb7)
        have O7 := Lib.hid hO7; have J7 := Lib.hid hj7; have T7 := Lib.hid ht7
        have HBL := Lib.hid (show bl.length = n7 by have h9 : bs7.map datC = bl := hj7; rw [← h9, List.length_map, OwnCs.len hO7])
        simp only at hz7
        clear hO7 hj7 ht7 hb7
        go_wp2_with (at_builtin; first
          | (refine wp_appCmdG (by rfl) _ _ (by rfl) w.heap.size O _ cc js (by rfl) (by exact (hO.out.keep B7.out).alloc _) wr.heap.size hzr hO.out.bndA (fun s hs a ha hn => (hO.out.bndS s hs a ha hn).2) w7.heap.size ⟨1, 0, (n7 : Int), A5, n5, c5, xs⟩ (by rfl) (by exact Blk.new _ _ _) (by exact (V5.out.alloc _).wider (Nat.le_refl _) (by simp; omega)) (by omega) (by simp; omega) ?_; intro A8 c8 w8 own8 hb8 hk8 hg8 hz8; have hap := cmds_apart (t := ⟨1, 0, (n7 : Int), A5, n5, c5, xs⟩) hO.out.bndA (fun s hs a ha hn => (hO.out.bndS s hs a ha hn).2) (fun a ha hn => by obtain ⟨a', e', _, h9, _⟩ := W5.out.2 hn; have e2 : A5 = some a := ha; rw [e2] at e'; injection e' with e'; subst e'; exact h9) z5 (O7.out.alloc _) hg8; have O8 := Lib.hid own8; have B8 := Lib.hid hb8; have AP := Lib.hid hap; have P8 := Lib.hid ((O7.out.alloc _).move (fun b h1 h2 => hk8 b h2 (fun ad ha => by have := hO.out.bndA ad ha; omega)) hz8); have z8 := hz8; clear own8 hb8 hk8 hg8 hz8 hap)
          | (refine wp_appCmdsG (by rfl) _ _ (by rfl) w.heap.size A8 _ c8 (js ++ [⟨1, 0, (n7 : Int), A5, n5, c5, xs⟩]) (by rfl) O8.out w5.heap.size (by omega) A7 n7 c7 bs7 (by rfl) P8.out AP.out.1 AP.out.2 (by omega) (by simp at z8; omega) ?_; intro A9 c9 w9 own9 hb9 hz9 hk9))
        have O9 := Lib.hid own9
        have B9 := Lib.hid (((below_chain HB.out hzr (B7.out.alloc (by omega) _)).trans B8.out).trans hb9)
        clear own9 hb9 hk9 hz9
        go_wp2_with fail
        go_roundw
        case rel =>
          refine ⟨z + 1, _, c9, F, A9, (js ++ [(⟨1, 0, (n7 : Int), A5, n5, c5, xs⟩ : Ct)]) ++ bs7, by have := HP.out; omega, ?_, by go_num, rfl, ?_, by have := HF.out; unfold Hid; omega, O9.out, ?_, B9.out⟩
          · have := HP.out; omega
          · unfold Hid; rw [List.map_append, List.map_append, J7.out, List.append_assoc]; have := HM2.out; rw [HBL.out] at this; exact this
          · intro t ht
            rcases List.mem_append.1 ht with ht | ht
            · rcases List.mem_append.1 ht with ht | ht
              · exact hj.out t ht
              · rw [List.mem_singleton] at ht; subst ht; exact ⟨hc5, by show n5 ≤ 1048576; omega⟩
            · exact T7.out t ht
        case measure => simp [intOf]; omega
      · have gw : (x1 == 119) = false := by simpa using hw
        have HW := Lib.hid hw
        clear hw
        obtain ⟨⟨xs, q, ok⟩, hr⟩ : ∃ r, sxE s 40 (k + 2) = r := ⟨_, rfl⟩
        have hbd := sxE_bd s 40 (k + 2)
        rw [hr] at hbd
        have b1 := hbd.ok; have b2 := hbd.len
        simp only at b1 b2
        have HRA := Lib.hid hr
        have HCN := Lib.hid (show c1 ≠ 119 from fun e => HW.out (H119.out.1 e))
        have HLS := HLN.out
        clear hbd hr
        cases ok
        · have HG := Lib.hid (show (([], k, false) : RdC) = R by rw [← HM.out, set_bad HC1.out HCN.out HRA.out])
          clear HM b1
          go_wp2_with fail
          refine (l22ReadExpr_i s HS.out (k + 2) _ _ (by omega) (by omega)).mono ?_
          rw [HRA.out]
          rintro e w5 ⟨A5, n5, c5, rfl, hw5, hc5, hb5⟩
          have B5 := Lib.hid (below_chain HB.out hzr hb5)
          clear hw5 hb5
          go_wp2_with fail
          go_ret3
          rw [← HG.out]
          exact RcmOut.bad B5.out (by omega) (by omega)
        obtain ⟨b3, b4⟩ := b1 rfl
        have HM2 := Lib.hid (show sxB s d (bodyS s d) F (js.map datC ++ [(0, x1 - 48, 0, xs)]) q = R by rw [← HM.out, set_read HC1.out HCN.out HX1.out HRA.out])
        have v2 : IntKind.i64.wrap (x1 - 48) = x1 - 48 := IntWalk.i64_in _ (by omega)
        clear HM b1
        go_wp2_with fail
        refine (l22ReadExpr_i s HS.out (k + 2) _ _ (by omega) (by omega)).mono ?_
        rw [HRA.out]
        rintro e w5 ⟨A5, n5, c5, rfl, hw5, hc5, hb5⟩
        have B5 := Lib.hid hb5
        have z5 := hb5.size
        have W5 := Lib.hid (show Wr w5 wr.heap.size w5.heap.size A5 (n5 * 2) (xs.flatMap enc2) from hw5)
        have hl5 : xs.length = n5 := Rd2.len hw5.rd
        clear hw5 hb5
        go_wp2_with (at_builtin; refine wp_appCmdG (by rfl) _ _ (by rfl) w.heap.size O _ cc js (by rfl) (by exact (hO.out.keep B5.out).alloc _) wr.heap.size hzr hO.out.bndA (fun s hs a ha hn => (hO.out.bndS s hs a ha hn).2) w5.heap.size ⟨0, x1 - 48, 0, A5, n5, c5, xs⟩ (by rfl) (by exact Blk.new _ _ _) (by exact (W5.out.alloc _).wider (Nat.le_refl _) (by simp)) (by omega) (by simp; omega) ?_; intro A6 c6 w6 own6 hb6 hk6 hg6 hz6)
        have O6 := Lib.hid own6; have B6 := Lib.hid ((below_chain HB.out hzr (B5.out.alloc z5 _)).trans hb6)
        clear own6 hb6 hk6 hg6 hz6
        go_wp2_with fail
        go_roundw
        case rel =>
          refine ⟨q, _, c6, F, A6, js ++ [(⟨0, x1 - 48, 0, A5, n5, c5, xs⟩ : Ct)], by omega, by omega, rfl, rfl, ?_, by have := HF.out; unfold Hid; omega, O6.out, ?_, B6.out⟩
          · unfold Hid; rw [List.map_append]; exact HM2.out
          · intro t ht
            rcases List.mem_append.1 ht with ht | ht
            · exact hj.out t ht
            · rw [List.mem_singleton] at ht; subst ht; exact ⟨hc5, by show n5 ≤ 1048576; omega⟩
        case measure => simp [intOf]; omega
theorem l22ReadAll_c (s : List UInt8) (hs : s.length ≤ 1048576) : ∀ d, d ≤ 80 → RaC s d
  | 0, hd => l22ReadAll_s s hs 0 hd fun d' h => by omega
  | d + 1, hd => l22ReadAll_s s hs (d + 1) hd fun d' h => by
    obtain rfl : d = d' := by omega
    exact l22ReadAll_c s hs d (by omega)

/-- a program that a call hands back, and whether it is one -/
def CmOutB (R : List Cmd × Bool) (w : World) (e : Ending) (w' : World) : Prop :=
  ∃ A n c ps, e = .returned (.tuple #[.slice A n c, .bool R.2]) ∧ WrS w' w.heap.size w'.heap.size (sgCS A n ps) ∧ (n ≤ 100 ∧ (∀ t ∈ ps, t.n ≤ 1000000) ∧ sumC ps ≤ 300000000 ∧ ps.map datC = R.1) ∧ Below w.heap.size w w'
theorem CmOutB.bad {w w' : World} (b : Bool) (h : Below w.heap.size w w') : CmOutB ([], b) w (.returned (.tuple #[.slice none 0 0, .bool b])) w' :=
  ⟨none, 0, 0, [], rfl, WrS.one (A := none) (n := 0 * 4) (vs := []) Wr.nil, ⟨by omega, by simp, by simp [sumC], rfl⟩, h⟩
theorem OwnCs.valid {w : World} {B : Nat} {A : Option Addr} {n c : Nat} {js : List Ct} {p : List Cmd} (h : OwnCs w B A n c js) (hj : js.map datC = p) (hv : validW p = true) : n ≤ 80 ∧ ∀ t ∈ js, t.n ≤ 40 := by
  obtain ⟨h1, h2⟩ := validW_all hv
  refine ⟨by rw [← OwnCs.len h, ← List.length_map (f := datC), hj]; exact h1, fun t ht => ?_⟩
  have h3 : Rd2 w t.A t.n t.xs := (h.wrs.each (bodyC t) (List.mem_map_of_mem ht)).rd
  have h4 := (validE_end (h2 (datC t) (by rw [← hj]; exact List.mem_map_of_mem ht)).1).2.2.1
  have h5 : t.xs.length ≤ 40 := h4
  have h6 := h3.len
  omega
theorem CmOutB.good {w w1 : World} {p : List Cmd} {A : Option Addr} {n c : Nat} {js : List Ct} (h : OwnCs w1 w.heap.size A n c js) (hj : js.map datC = p) (hv : validW p = true) (b : Bool) (hb : Below w.heap.size w w1) : CmOutB (p, b) w (.returned (.tuple #[.slice A n c, .bool b])) w1 := by
  obtain ⟨h1, h2⟩ := OwnCs.valid h hj hv
  have h3 := sumE_bd js 40 h2
  have h4 := OwnCs.len h
  exact ⟨A, n, c, js, rfl, OwnS.wrS h, ⟨by omega, fun t ht => by have := h2 t ht; omega, by rw [sumC_eq, h4]; rw [h4] at h3; omega, hj⟩, hb⟩
theorem rwS_bad {s : List UInt8} (h : (sxA s 80 0).2.2 = false ∨ s = [] ∨ validW (sxA s 80 0).1 = false ∨ whT (sxA s 80 0).1 ≠ s) : rwS s = ([], false) := by
  rw [rwS, if_neg]
  rintro ⟨h1, h2, h3, h4⟩
  rcases h with h | h | h | h
  · rw [h1] at h; cases h
  · exact h2 h
  · rw [h3] at h; cases h
  · exact h h4
theorem bs_eq {a b : List UInt8} : bs a = bs b ↔ a = b := ⟨bs_inj, fun h => by rw [h]⟩
theorem bs_toList (l : List UInt8) : (bs l).toList = l := ByteArray.toList_mk l
theorem bs_list' (x : ByteArray) : ∃ s : List UInt8, x = bs s := ⟨x.data.toList, by cases x; simp [bs]⟩
set_option maxHeartbeats 4000000 in
set_option maxRecDepth 100000 in
theorem sReadWhile_t (s : List UInt8) (w : World) (hs : s.length ≤ 1048576) : Calls Tryd.prog 11 #[.string (bs s)] w (CmOutB (rwS s) w) := by
  obtain ⟨⟨p, z, ok⟩, hr⟩ : ∃ r, sxA s 80 0 = r := ⟨_, rfl⟩
  obtain ⟨R, hR⟩ : ∃ R, rwS s = R := ⟨_, rfl⟩
  rw [hR]
  have HR := Lib.hid hR; have HRA := Lib.hid hr; have HS := Lib.hid hs
  clear hR hr
  go_enter Tryd.func11, Tryd.ntmps11
  go_wp2_with fail
  refine (l22ReadAll_c s HS.out 80 (by omega) 0 _ _ _ (by omega) (by omega) (by omega)).mono ?_
  rw [HRA.out]
  rintro e w1 ⟨A, n, c, js, rfl, hO, hj, ht, hn, hz, hb⟩
  have O1 := Lib.hid hO; have J1 := Lib.hid (show js.map datC = p from hj); have T1 := Lib.hid ht; have B1 := Lib.hid hb
  clear hO hj ht hb hz
  cases ok
  · have HG := Lib.hid (show (([], false) : List Cmd × Bool) = R by rw [← HR.out, rwS_bad (.inl (by rw [HRA.out]))])
    go_wp2_with fail
    go_ret2
    rw [← HG.out]
    exact CmOutB.bad false B1.out
  by_cases h0 : s = []
  · have HG := Lib.hid (show (([], false) : List Cmd × Bool) = R by rw [← HR.out, rwS_bad (.inr (.inl h0))])
    subst h0
    have gl := bs_toList []
    go_wp2_with fail
    go_ret2
    rw [← HG.out]
    exact CmOutB.bad false B1.out
  have gl := bs_toList s
  have g0 : s.isEmpty = false := by cases s with
    | nil => exact absurd rfl h0
    | cons a t => rfl
  have HNE := Lib.hid h0
  clear h0
  obtain ⟨q, hq⟩ : ∃ q, validW p = q := ⟨_, rfl⟩
  have HQ := Lib.hid (show validW (js.map datC) = q by rw [J1.out]; exact hq)
  have HV := Lib.hid hq
  clear hq
  cases q
  · have HG := Lib.hid (show (([], false) : List Cmd × Bool) = R by rw [← HR.out, rwS_bad (.inr (.inr (.inl (by rw [HRA.out]; exact HV.out))))])
    go_wp2_with (go_at_call 18; refine (l22Is_c A n c js false _ (by exact (OwnS.wrS O1.out).rd) (by omega) (fun t ht => by have := (T1.out t ht).2; omega) HQ.out).mono ?_; rintro e w2 ⟨rfl, hb2⟩; have B2 := Lib.hid (below_chain B1.out B1.out.size hb2))
    go_ret2
    rw [← HG.out]
    exact CmOutB.bad false B2.out
  have hvl := HV.out
  simp only [validW, Bool.and_eq_true, decide_eq_true_eq] at hvl
  have HC := Lib.hid hvl.2
  have hn8 := (OwnCs.valid O1.out J1.out HV.out).1
  have hcc := O1.out.own.cap
  clear hvl
  by_cases ht : whT p = s
  · have HG := Lib.hid (show ((p, true) : List Cmd × Bool) = R by rw [← HR.out, rwS, if_pos (by rw [HRA.out]; exact ⟨rfl, HNE.out, HV.out, ht⟩), HRA.out])
    have gw := bs_toList (whT p)
    have gt : (whT p == s) = true := by simp [ht]
    clear ht
    go_wp2_with (first
      | (go_at_call 18; refine (l22Is_c A n c js true _ (by exact (OwnS.wrS O1.out).rd) (by omega) (fun t ht => by have := (T1.out t ht).2; omega) HQ.out).mono ?_; rintro e w2 ⟨rfl, hb2⟩; have B2 := Lib.hid hb2)
      | (go_at_call 19; refine (l22Text_c (n + 1) A n c js p _ (by omega) (by exact (OwnS.wrS O1.out).rd.below B2.out) hcc hn8 J1.out HC.out).mono ?_; rintro e w3 ⟨rfl, hb3⟩; have B3 := Lib.hid (below_chain B2.out B2.out.size hb3)))
    go_ret2
    rw [← HG.out]
    exact CmOutB.good (O1.out.keep B3.out) J1.out HV.out true (below_chain B1.out B1.out.size B3.out)
  · have HG := Lib.hid (show (([], false) : List Cmd × Bool) = R by rw [← HR.out, rwS_bad (.inr (.inr (.inr (by rw [HRA.out]; exact ht))))])
    have gw := bs_toList (whT p)
    have gt : (whT p == s) = false := by rw [beq_eq_false_iff_ne]; exact ht
    clear ht
    go_wp2_with (first
      | (go_at_call 18; refine (l22Is_c A n c js true _ (by exact (OwnS.wrS O1.out).rd) (by omega) (fun t ht => by have := (T1.out t ht).2; omega) HQ.out).mono ?_; rintro e w2 ⟨rfl, hb2⟩; have B2 := Lib.hid hb2)
      | (go_at_call 19; refine (l22Text_c (n + 1) A n c js p _ (by omega) (by exact (OwnS.wrS O1.out).rd.below B2.out) hcc hn8 J1.out HC.out).mono ?_; rintro e w3 ⟨rfl, hb3⟩; have B3 := Lib.hid (below_chain B2.out B2.out.size hb3)))
    go_ret2
    rw [← HG.out]
    exact CmOutB.bad false (below_chain B1.out B1.out.size B3.out)
end Go.Proofs.YtkchgjegdmcnaaaDoor
