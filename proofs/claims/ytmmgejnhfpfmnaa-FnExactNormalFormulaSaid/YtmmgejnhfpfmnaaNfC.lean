/-
  Contracts of chapter 27 (NormalFormula): copies (the program's).
-/
import Derived.Test.YtmmgejnhfpfmnaaC27m
import Derived.Test.YtmmgejnhfpfmnaaMixW
namespace Go.Proofs.Ytmmgejnhfpfmnaa
open Go.RowKit

theorem info_I64S6 : (Try.prog.info? 25).map (fun i => (i.zero, i.size, i.bytes)) = some (some (.slice none 0 0), 1, 24) := by kernel_rfl
/-- lists of the call's own -/
def LsOut (n : Nat) (xss : List (List Int)) (w : World) (e : Ending) (w' : World) : Prop :=
  ∃ A c its, e = .returned (.slice A n c) ∧ its.map It.xs = xss ∧ (∀ t ∈ its, t.n ≤ t.c) ∧ WrS w' w.heap.size w'.heap.size (sgII A n its) ∧ Below w.heap.size w w'
set_option maxHeartbeats 2000000 in
set_option maxRecDepth 100000 in
theorem copyLists_c (A : Option Addr) (n c : Nat) (its : List It) (w : World) (h : RdS w (sgII A n its)) (hn : n ≤ 1000000) (hi : ∀ t ∈ its, t.n ≤ 1000000) :
    Calls Try.prog 124 #[.slice A n c] w (LsOut n (its.map It.xs) w) := by
  have HL := Lib.hid (RdII.len h)
  have H := Lib.hid h; have HI := Lib.hid hi
  clear h hi
  go_enter Try.func124, Try.ntmps124
  go_wp2_with fail
  go_loopw [3, 9] (fun ov iv wr => ∃ (k : Nat) (O : Option Addr) (oc : Nat) (js : List It), k ≤ n ∧ iv = .int .i64 k ∧ ov = .slice O k oc ∧ Hid (js.map It.xs = (its.take k).map It.xs) ∧ Hid (∀ t ∈ js, t.n ≤ t.c) ∧ Hid (OwnS wr w.heap.size 25 1 O k oc (js.map hdI) (js.map bodyI)) ∧ Below w.heap.size w wr) (fun _ iv _ => n - (intOf iv).toNat)
  case atStart => exact ⟨0, _, _, [], by omega, rfl, rfl, rfl, (fun t ht => by cases ht), OwnS.nil (Own.lit (Nat.le_refl _)), below_size.alloc (Nat.le_refl _) _⟩
  case round =>
    obtain ⟨k, O, oc, js, hk, rfl, rfl, hx, hcaps, hO, hb⟩ := hrel
    have HB := Lib.hid hb
    have hwz := hb.size
    by_cases hlt : k < n
    · obtain ⟨ad, t, rfl, hab, ht, hct, hrt⟩ := RdII.at_ (H.out.below hb) hlt
      have hti := HI.out t (List.mem_of_getElem? ht)
      have HT := Lib.hid ht; have HR := Lib.hid hrt.head
      clear ht hrt hb
      go_wp2_with fail
      refine (cloneK_c t.A t.n t.c t.xs _ (by exact HR.out) hti).mono ?_
      rintro e w1 ⟨A1, c1, rfl, hc1, hw1, hb1⟩
      have W1 := Lib.hid hw1; have B1 := Lib.hid hb1
      have hz1 := hb1.size
      clear hw1 hb1
      have hne : w1.heap.size < (w1.alloc (.cells #[.slice A1 t.n c1] 25)).heap.size := by simp
      go_wp2_with (at_builtin; refine wp_app1 (by rfl) _ _ 27 25 (.slice none 0 0) 24 (by rfl) Try.underlying27 info_I64S6 rfl w.heap.size O k oc (js.map hdI) (by rfl) (by exact (hO.out.keep (below_chain B1.out B1.out.size (below_size.alloc (Nat.le_refl _) _))).own) w1.heap.size (.slice A1 t.n c1) (by rfl) (by exact new_cell _ _ _ 0) rfl (by omega) (by omega) (by simp; omega) ?_; intro g' cap w3 own3 hb3 hk3 hg3 hz3)
      have O3 := Lib.hid (hO.out.push (s := sgI A1 t.n t.xs) (by omega) (below_chain B1.out B1.out.size (below_size.alloc (Nat.le_refl _) (.cells #[.slice A1 t.n c1] 25))) ((W1.out.alloc _).wider (Nat.le_refl _) (by simp)) own3 hk3 hg3 hz3)
      have B3 := Lib.hid (HB.out.trans ((below_chain B1.out B1.out.size (below_size.alloc (Nat.le_refl _) (.cells #[.slice A1 t.n c1] 25))).mono (by omega) |>.trans hb3))
      clear own3 hb3 hk3 hg3 hne
      go_wp2_with fail
      go_roundw
      case rel =>
        refine ⟨k + 1, _, cap, js ++ [⟨A1, t.n, c1, t.xs⟩], by omega, by go_num, rfl, ?_, ?_, ?_, B3.out⟩
        · unfold Hid; rw [take_at HT.out, List.map_append, List.map_append, hx.out]; rfl
        · intro u hu
          rcases List.mem_append.1 hu with hu | hu
          · exact hcaps.out u hu
          · rw [List.mem_singleton] at hu; subst hu; exact hc1
        · unfold Hid; rw [List.map_append, List.map_append]; exact O3.out
      case measure => simp [intOf]; omega
    · obtain rfl : k = n := by omega
      clear hb
      go_wp2_with fail
      go_ret
      have h1 := hO.out.wrS
      rw [Nat.mul_one] at h1
      exact ⟨O, oc, js, rfl, by rw [hx.out, List.take_of_length_le (by rw [HL.out]; exact Nat.le_refl _)], hcaps.out, h1, HB.out⟩
/-- a formula tape of the call's own behind a pointer -/
def FpOut (s hd a : Int) (n0 n1 n2 : Nat) (ws rs : List (List Int)) (os : List Int) (w : World) (e : Ending) (w' : World) : Prop :=
  ∃ g A0 c0 its0 A1 c1 its1 A2 c2, e = .returned (.pointer (some ⟨g, 0, none⟩)) ∧ its0.map It.xs = ws ∧ its1.map It.xs = rs ∧ FormW w w.heap.size w' g s hd a A0 n0 c0 its0 A1 n1 c1 its1 A2 n2 c2 os
theorem FormW.box {w w1 w2 w3 : World} {s hd a : Int} {A0 : Option Addr} {n0 c0 : Nat} {its0 : List It} {A1 : Option Addr} {n1 c1 : Nat} {its1 : List It} {A2 : Option Addr} {n2 c2 : Nat} {os : List Int} {B : Nat}
    (h0 : WrS w1 B w1.heap.size (sgII A0 n0 its0)) (hB : Below B w w1) (hb0 : B ≤ w1.heap.size) (h1 : WrS w2 w1.heap.size w2.heap.size (sgII A1 n1 its1)) (hb1 : Below w1.heap.size w1 w2) (h2 : Wr w3 w2.heap.size w3.heap.size A2 n2 (os.map i64)) (hb2 : Below w2.heap.size w2 w3)
    (k0 : ∀ t ∈ its0, t.n ≤ t.c) (k1 : ∀ t ∈ its1, t.n ≤ t.c) (hwB : w.heap.size ≤ B) :
    FormW w B (w3.alloc (.cells #[i64 s, i64 hd, i64 a, .slice A0 n0 c0, .slice A1 n1 c1, .slice A2 n2 c2] 29)) w3.heap.size s hd a A0 n0 c0 its0 A1 n1 c1 its1 A2 n2 c2 os := by
  have z1 := hb1.size; have z2 := hb2.size
  have h12 : Below w1.heap.size w1 w3 := below_chain hb1 z1 hb2
  have H := (((h0.below h12).append (h1.below hb2) hb0 z1).append (WrS.one h2) (by omega) z2)
  have hn := (Blk.new w3 29 #[i64 s, i64 hd, i64 a, .slice A0 n0 c0, .slice A1 n1 c1, .slice A2 n2 c2]).wr (lo := w3.heap.size) (hi := w3.heap.size + 1) (n := 6) (vs := [i64 s, i64 hd, i64 a, .slice A0 n0 c0, .slice A1 n1 c1, .slice A2 n2 c2]) (Nat.le_refl _) (Nat.lt_succ_self _) rfl (by simp)
  have HH := ((H.alloc (.cells #[i64 s, i64 hd, i64 a, .slice A0 n0 c0, .slice A1 n1 c1, .slice A2 n2 c2] 29)).append (WrS.one hn) (by omega) (by omega)).permN (List.perm_append_singleton _ _)
  have hbl : Below B w (w3.alloc (.cells #[i64 s, i64 hd, i64 a, .slice A0 n0 c0, .slice A1 n1 c1, .slice A2 n2 c2] 29)) := ((hB.trans (h12.mono (by omega))).alloc (by omega) _)
  exact ⟨HH.wider (Nat.le_refl _) (by simp), hbl, by simp; omega, k0, k1, fun b h1 _ _ _ _ => hbl.block b (Nat.lt_of_lt_of_le h1 hwB), hbl.size⟩
set_option maxHeartbeats 4000000 in
set_option maxRecDepth 100000 in
theorem copyFormula_c (s hd a : Int) (A0 : Option Addr) (n0 c0 : Nat) (its0 : List It) (A1 : Option Addr) (n1 c1 : Nat) (its1 : List It) (A2 : Option Addr) (n2 c2 : Nat) (os : List Int) (w : World) (h : RdS w (sgForm A0 n0 its0 A1 n1 its1 A2 n2 os)) (hn0 : n0 ≤ 1000000) (hn1 : n1 ≤ 1000000) (hn2 : n2 ≤ 1000000) (hi0 : ∀ t ∈ its0, t.n ≤ 1000000) (hi1 : ∀ t ∈ its1, t.n ≤ 1000000) :
    Calls Try.prog 75 #[.agg #[.int .i64 s, .int .i64 hd, .int .i64 a, .slice A0 n0 c0, .slice A1 n1 c1, .slice A2 n2 c2]] w (FpOut s hd a n0 n1 n2 (its0.map It.xs) (its1.map It.xs) os w) := by
  have H := Lib.hid h; have HI0 := Lib.hid hi0; have HI1 := Lib.hid hi1
  clear h hi0 hi1
  obtain ⟨W, hW⟩ : ∃ W, w.alloc (.cells #[i64 s, i64 hd, i64 a, .slice A0 n0 c0, .slice A1 n1 c1, .slice A2 n2 c2] 29) = W := ⟨_, rfl⟩
  have BW := Lib.hid (show Below w.heap.size w W by rw [← hW]; exact below_size.alloc (Nat.le_refl _) _)
  have GW := Lib.hid (show Blk W w.heap.size 29 #[i64 s, i64 hd, i64 a, .slice A0 n0 c0, .slice A1 n1 c1, .slice A2 n2 c2] by rw [← hW]; exact Blk.new w _ _)
  have hwz := BW.out.size
  have k0 := GW.out.cell 0; have k1 := GW.out.cell 1; have k2 := GW.out.cell 2; have k3 := GW.out.cell 3; have k4 := GW.out.cell 4; have k5 := GW.out.cell 5
  simp at k0 k1 k2 k3 k4 k5
  simp only [i64] at hW
  go_enter Try.func75, Try.ntmps75
  go_wp2_with fail
  clear hW
  have x0 := Ext.cell k0; have x1 := Ext.cell k1; have x2 := Ext.cell k2; have x3 := Ext.cell k3; have x4 := Ext.cell k4; have x5 := Ext.cell k5
  refine Mix.wp_region_mix [0, 3, 0, 3, 0, 3, 0, 3, 1, 0, 3, 1, 0, 3, 1, 0, 1, 0] (fun w' => ∃ x : Ext W, w' = x.w) (by kernel_rfl) (by kernel_rfl) (InExt.drew _) ?_
  repeat (first | (refine Mix.wpMix_read (by rfl) ?_; go_big_quiet_step (fail); refine wpQuiet_nil ?_) | (refine Mix.wpMix_pure (by rfl) ?_; go_big_quiet_step (fail); refine wpQuiet_nil ?_))
  refine Mix.wpMix_chg (by rfl) (fun K hK => ?_)
  go_wp2_with fail
  refine (copyLists_c A0 n0 c0 its0 _ (by exact RdS.drew (H.out.left.left.below BW.out)) hn0 HI0.out).mono ?_
  rintro e w1 ⟨B0, d0, js0, rfl, e0, q0, hw1, hb1⟩
  have E1 := Lib.hid (show Below W.heap.size W w1 from ⟨hb1.os, hb1.tape, hb1.output, hb1.size, hb1.block⟩)
  have W1 := Lib.hid (show WrS w1 W.heap.size w1.heap.size (sgII B0 n0 js0) from hw1)
  have Q0 := Lib.hid (And.intro e0 q0)
  clear hw1 hb1 e0 q0
  go_wp2_with fail
  refine hK _ _ ⟨⟨_, E1.out⟩, rfl⟩ ?_
  clear hK K
  repeat (first | (refine Mix.wpMix_read (by rfl) ?_; go_big_quiet_step (fail); refine wpQuiet_nil ?_) | (refine Mix.wpMix_pure (by rfl) ?_; go_big_quiet_step (fail); refine wpQuiet_nil ?_))
  refine Mix.wpMix_chg (by rfl) (fun K hK => ?_)
  go_wp2_with fail
  refine (copyLists_c A1 n1 c1 its1 _ (by exact (H.out.left.right.below BW.out).below E1.out) hn1 HI1.out).mono ?_
  rintro e w2 ⟨B1, d1, js1, rfl, e1, q1, hw2, hb2⟩
  have E2 := Lib.hid hb2; have W2 := Lib.hid hw2; have Q1 := Lib.hid (And.intro e1 q1)
  have E12 := Lib.hid (below_chain E1.out E1.out.size hb2)
  clear hw2 hb2 e1 q1
  go_wp2_with fail
  refine hK _ _ ⟨⟨_, E12.out⟩, rfl⟩ ?_
  clear hK K
  repeat (first | (refine Mix.wpMix_read (by rfl) ?_; go_big_quiet_step (fail); refine wpQuiet_nil ?_) | (refine Mix.wpMix_pure (by rfl) ?_; go_big_quiet_step (fail); refine wpQuiet_nil ?_))
  refine Mix.wpMix_chg (by rfl) (fun K hK => ?_)
  go_wp2_with fail
  refine (cloneK_c A2 n2 c2 os _ (by exact RdI.below (RdI.below H.out.right.head BW.out) E12.out) hn2).mono ?_
  rintro e w3 ⟨B2, d2, rfl, hc2, hw3, hb3⟩
  have E3 := Lib.hid hb3; have W3 := Lib.hid hw3
  have E13 := Lib.hid (below_chain E12.out E12.out.size hb3)
  clear hw3 hb3
  go_wp2_with fail
  refine hK _ _ ⟨⟨_, E13.out⟩, rfl⟩ ?_
  clear hK K
  repeat (first | (refine Mix.wpMix_read (by rfl) ?_; go_big_quiet_step (fail); refine wpQuiet_nil ?_) | (refine Mix.wpMix_pure (by rfl) ?_; go_big_quiet_step (fail); refine wpQuiet_nil ?_))
  refine Mix.wpMix_build (by rfl) _ _ rfl (.agg #[i64 s, i64 hd, i64 a, .slice B0 n0 d0, .slice B1 n1 d1, .slice B2 n2 d2]) (fun w => by simp [go_sem]) ?_
  simp only [Act.put, List.setIfInBounds_toArray, List.set_cons_succ, List.set_cons_zero]
  refine Mix.wpMix_chg (by rfl) (fun K hK => ?_)
  go_wp2_with fail
  refine hK _ _ ⟨⟨_, below_chain E13.out E13.out.size (below_size.alloc (Nat.le_refl _) _)⟩, rfl⟩ ?_
  clear hK K
  have F4 := Lib.hid (FormW.box (w := w) (B := w.heap.size) (s := s) (hd := hd) (a := a) (c0 := d0) (c1 := d1) (c2 := d2) (W1.out.wider hwz (Nat.le_refl _)) (BW.out.trans (E1.out.mono hwz)) (by have := E1.out.size; omega) W2.out E2.out W3.out E3.out Q0.out.2 Q1.out.2 (Nat.le_refl _))
  repeat (first | (refine Mix.wpMix_read (by rfl) ?_; go_big_quiet_step (fail); refine wpQuiet_nil ?_) | (refine Mix.wpMix_pure (by rfl) ?_; go_big_quiet_step (fail); refine wpQuiet_nil ?_))
  (refine Mix.wpMix_nil ?_; try simp only [Exit.then])
  clear x0 x1 x2 x3 x4 x5 k0 k1 k2 k3 k4 k5
  go_wp2_with fail
  go_ret
  exact ⟨_, _, _, js0, _, _, js1, _, _, rfl, Q0.out.1, Q1.out.1, F4.out⟩

/-- numbers of the call's own, that may grow -/
def fOw (n : Nat) (xs : List Int) : MixA.Fact1 := fun _ v lo hi w => ∃ A c, v = .slice A n c ∧ Own w lo 2 1 A n c (xs.map i64) ∧ ∀ ad, A = some ad → ad.block < hi
theorem fOw_st (n : Nat) (xs : List Int) : MixA.Stab (fOw n xs) := fun _ _ _ _ _ _ hb h => by obtain ⟨A, c, e, hw, hh⟩ := h; exact ⟨A, c, e, hw.keep hb, hh⟩
def fA6 : MixA.Fact1 := fun l v _ _ _ => v = .agg #[l.getD 0 undef, l.getD 1 undef, l.getD 2 undef, l.getD 3 undef, l.getD 4 undef, l.getD 5 undef]
theorem fA6_st : MixA.Stab fA6 := fun _ _ _ _ _ _ _ h => h
theorem Own.wide {w : World} {B B' : Nat} {e : TypeId} {size n c : Nat} {A : Option Addr} {vs : List Value} (h : Own w B e size A n c vs) (hB : B' ≤ B) : Own w B' e size A n c vs := by
  refine ⟨h.1, ?_⟩
  rcases h.2 with h1 | ⟨g, cap, cur, hv, h2, h3⟩
  · exact .inl h1
  · exact .inr ⟨g, cap, cur, hv, Nat.le_trans hB h2, h3⟩
theorem Own.ofBlk {w : World} {B g : Nat} {e : TypeId} (h : Blk w g e #[]) (hB : B ≤ g) : Own w B e 1 (some ⟨g, 0, none⟩) 0 0 [] :=
  ⟨by simp, .inr ⟨g, 0, #[], rfl, hB, h, by omega, by simp [maxLen], by simp, by simp⟩⟩
/-- the copy as it grows: its variable, offsets, walls, repeaters -/
structure Own3 (w : World) (B g : Nat) (s hd a : Int) (O : Option Addr) (n2 cO : Nat) (os : List Int) (A0 : Option Addr) (m0 d0 : Nat) (its0 : List It) (A1 : Option Addr) (m1 d1 : Nat) (its1 : List It) : Prop where
  f : Four w B B O n2 cO os none 0 0 [] A0 m0 d0 its0 A1 m1 d1 its1
  blk : Blk w g 29 #[i64 s, i64 hd, i64 a, .slice A0 m0 d0, .slice A1 m1 d1, .slice O n2 cO]
  n0 : ¬ blks A0 (its0.map bodyI) g
  n1 : ¬ blks A1 (its1.map bodyI) g
section
variable {w w' : World} {B L g : Nat} {s hd a : Int} {O : Option Addr} {n2 cO : Nat} {os : List Int} {A0 : Option Addr} {m0 d0 : Nat} {its0 : List It} {A1 : Option Addr} {m1 d1 : Nat} {its1 : List It} {T : Option Addr} {n' c' : Nat} {ys : List Int}
theorem Four.setN {cs : Array Value} (h : Four w B L O n2 cO os T n' c' ys A0 m0 d0 its0 A1 m1 d1 its1) (hg : Blk w g 29 cs) (n0 : ¬ blks A0 (its0.map bodyI) g) (n1 : ¬ blks A1 (its1.map bodyI) g) (i : Nat) (u : Value) : Four (w.setCell ⟨g, i, none⟩ u) B L O n2 cO os T n' c' ys A0 m0 d0 its0 A1 m1 d1 its1 := by
  have hk : ∀ b, b ≠ g → (w.setCell ⟨g, i, none⟩ u).heap[b]? = w.heap[b]? := fun b hb => Below.heap_setCell w _ u b hb
  have hz : w.heap.size ≤ (w.setCell ⟨g, i, none⟩ u).heap.size := by simp
  refine ⟨h.o.moveF (fun b hb => hk b ?_) hz, h.t.moveF (fun b hb => hk b ?_) hz, h.a.moveF (fun b hb => hk b fun e => n0 (e ▸ hb)) hz, h.r.moveF (fun b hb => hk b fun e => n1 (e ▸ hb)) hz, h.ot, h.oa, h.or_, h.ta, h.tr, h.ar⟩
  · rcases hb with ⟨ad, e, rfl⟩ | ⟨_, hs, _⟩
    · exact h.o.own.ne_ hg (by decide) ad e
    · cases hs
  · rcases hb with ⟨ad, e, rfl⟩ | ⟨_, hs, _⟩
    · exact h.t.own.ne_ hg (by decide) ad e
    · cases hs
theorem Own3.start {w : World} {O : Option Addr} {cO l18 h18 l19 h19 l24 h24 l3 h3 g18 g19 : Nat} (ho : Own w B 2 1 O n2 cO (os.map i64)) (hr : ∀ ad, O = some ad → l24 ≤ ad.block ∧ ad.block < h24)
    (b18 : Blk w g18 25 #[]) (q1 : l18 ≤ g18) (q2 : g18 < h18) (b19 : Blk w g19 25 #[]) (q3 : l19 ≤ g19) (q4 : g19 < h19) (b3 : Blk w g 29 #[i64 0, i64 0, i64 0, .slice none 0 0, .slice none 0 0, .slice none 0 0]) (q5 : l3 ≤ g) (q6 : g < h3)
    (B18 : B ≤ l18) (B19 : B ≤ l19) (_B3 : B ≤ l3) (d1 : h18 ≤ l19 ∨ h19 ≤ l18) (d2 : h18 ≤ l24 ∨ h24 ≤ l18) (d3 : h19 ≤ l24 ∨ h24 ≤ l19) (d4 : h18 ≤ l3 ∨ h3 ≤ l18) (d5 : h19 ≤ l3 ∨ h3 ≤ l19) (d6 : h24 ≤ l3 ∨ h3 ≤ l24) :
    Own3 ((((((w.setCell ⟨g, 0, none⟩ (i64 s)).setCell ⟨g, 1, none⟩ (i64 hd)).setCell ⟨g, 2, none⟩ (i64 a)).setCell ⟨g, 3, none⟩ (.slice (some ⟨g18, 0, none⟩) 0 0)).setCell ⟨g, 4, none⟩ (.slice (some ⟨g19, 0, none⟩) 0 0)).setCell ⟨g, 5, none⟩ (.slice O n2 cO)) B g s hd a O n2 cO os (some ⟨g18, 0, none⟩) 0 0 [] (some ⟨g19, 0, none⟩) 0 0 [] := by
  have hb1 : ∀ (k b : Nat), blks (some ⟨k, 0, none⟩) [] b → b = k := fun k b h => by
    rcases h with ⟨ad, e, rfl⟩ | ⟨_, h, _⟩
    · injection e with e; subst e; rfl
    · cases h
  have hbo : ∀ b, blks O [] b → l24 ≤ b ∧ b < h24 := fun b h => by
    rcases h with ⟨ad, e, rfl⟩ | ⟨_, h, _⟩
    · exact hr ad e
    · cases h
  have n0 : ¬ blks (some ⟨g18, 0, none⟩) ([] : List Seg) g := fun h => by have := hb1 _ _ h; omega
  have n1 : ¬ blks (some ⟨g19, 0, none⟩) ([] : List Seg) g := fun h => by have := hb1 _ _ h; omega
  have F : Four w B B O n2 cO os none 0 0 [] (some ⟨g18, 0, none⟩) 0 0 [] (some ⟨g19, 0, none⟩) 0 0 [] :=
    ⟨OwnS.nil ho, OwnS.nil Own.nil, OwnS.nil (Own.ofBlk b18 (by omega)), OwnS.nil (Own.ofBlk b19 (by omega)), fun b _ h => blks_nil h, fun b h1 h2 => by have := hbo b h1; have := hb1 _ _ h2; omega, fun b h1 h2 => by have := hbo b h1; have := hb1 _ _ h2; omega,
     fun b h _ => blks_nil h, fun b h _ => blks_nil h, fun b h1 h2 => by have := hb1 _ _ h1; have := hb1 _ _ h2; omega⟩
  have G := ((((((b3.set_ 0 (i64 s))).set_ 1 (i64 hd)).set_ 2 (i64 a)).set_ 3 (.slice (some ⟨g18, 0, none⟩) 0 0)).set_ 4 (.slice (some ⟨g19, 0, none⟩) 0 0)).set_ 5 (.slice O n2 cO)
  refine ⟨?_, by simpa using G, n0, n1⟩
  exact (((((F.setN b3 n0 n1 0 _).setN (b3.set_ 0 _) n0 n1 1 _).setN ((b3.set_ 0 _).set_ 1 _) n0 n1 2 _).setN (((b3.set_ 0 _).set_ 1 _).set_ 2 _) n0 n1 3 _).setN ((((b3.set_ 0 _).set_ 1 _).set_ 2 _).set_ 3 _) n0 n1 4 _).setN (((((b3.set_ 0 _).set_ 1 _).set_ 2 _).set_ 3 _).set_ 4 _) n0 n1 5 _
theorem Own3.wall {w0 w1 : World} {g' cap : Nat} {i : It} (h : Own3 w0 B g s hd a O n2 cO os A0 m0 d0 its0 A1 m1 d1 its1) (hB : B ≤ w0.heap.size) (hb : Below w0.heap.size w0 w1) (hs : Wr w1 w0.heap.size w1.heap.size i.A i.n (i.xs.map i64))
    (hown : Own w' B 25 1 (some ⟨g', 0, none⟩) (m0 + 1) cap (its0.map hdI ++ [hdI i])) (hk : ∀ b, b < w1.heap.size → (∀ ad', A0 = some ad' → ad'.block ≠ b) → w'.heap[b]? = w1.heap[b]?) (hg : A0 = some ⟨g', 0, none⟩ ∨ g' = w1.heap.size) (hz : w1.heap.size ≤ w'.heap.size) :
    Blk w' g 29 #[i64 s, i64 hd, i64 a, .slice A0 m0 d0, .slice A1 m1 d1, .slice O n2 cO] ∧ Own3 (w'.setCell ⟨g, 3, none⟩ (.slice (some ⟨g', 0, none⟩) (m0 + 1) cap)) B g s hd a O n2 cO os (some ⟨g', 0, none⟩) (m0 + 1) cap (its0 ++ [i]) A1 m1 d1 its1 := by
  have G : Blk w' g 29 #[i64 s, i64 hd, i64 a, .slice A0 m0 d0, .slice A1 m1 d1, .slice O n2 cO] := (h.blk.keep hb).of_block (hk _ (h.blk.keep hb).lt fun ad' e e2 => h.n0 (.inl ⟨ad', e, e2⟩))
  have F := h.f.wall (i := i) hB hb hs hown hk hg hz
  have n0 : ¬ blks (some ⟨g', 0, none⟩) ((its0 ++ [i]).map bodyI) g := fun hh => by
    rcases blks_push (s := bodyI i) (headAt hb hg) (rowLies (s := bodyI i) hs) (by simpa using hh) with h1 | h1
    · exact h.n0 h1
    · have := h.blk.lt; omega
  refine ⟨G, F.setN G n0 h.n1 3 _, ?_, n0, h.n1⟩
  have := G.set_ 3 (.slice (some ⟨g', 0, none⟩) (m0 + 1) cap)
  simpa using this
theorem Own3.rep {w0 w1 : World} {g' cap : Nat} {i : It} (h : Own3 w0 B g s hd a O n2 cO os A0 m0 d0 its0 A1 m1 d1 its1) (hB : B ≤ w0.heap.size) (hb : Below w0.heap.size w0 w1) (hs : Wr w1 w0.heap.size w1.heap.size i.A i.n (i.xs.map i64))
    (hown : Own w' B 25 1 (some ⟨g', 0, none⟩) (m1 + 1) cap (its1.map hdI ++ [hdI i])) (hk : ∀ b, b < w1.heap.size → (∀ ad', A1 = some ad' → ad'.block ≠ b) → w'.heap[b]? = w1.heap[b]?) (hg : A1 = some ⟨g', 0, none⟩ ∨ g' = w1.heap.size) (hz : w1.heap.size ≤ w'.heap.size) :
    Blk w' g 29 #[i64 s, i64 hd, i64 a, .slice A0 m0 d0, .slice A1 m1 d1, .slice O n2 cO] ∧ Own3 (w'.setCell ⟨g, 4, none⟩ (.slice (some ⟨g', 0, none⟩) (m1 + 1) cap)) B g s hd a O n2 cO os A0 m0 d0 its0 (some ⟨g', 0, none⟩) (m1 + 1) cap (its1 ++ [i]) := by
  have G : Blk w' g 29 #[i64 s, i64 hd, i64 a, .slice A0 m0 d0, .slice A1 m1 d1, .slice O n2 cO] := (h.blk.keep hb).of_block (hk _ (h.blk.keep hb).lt fun ad' e e2 => h.n1 (.inl ⟨ad', e, e2⟩))
  have F := h.f.rep (i := i) hB hb hs hown hk hg hz
  have n1 : ¬ blks (some ⟨g', 0, none⟩) ((its1 ++ [i]).map bodyI) g := fun hh => by
    rcases blks_push (s := bodyI i) (headAt hb hg) (rowLies (s := bodyI i) hs) (by simpa using hh) with h1 | h1
    · exact h.n1 h1
    · have := h.blk.lt; omega
  refine ⟨G, F.setN G h.n0 n1 4 _, ?_, h.n0, n1⟩
  have := G.set_ 4 (.slice (some ⟨g', 0, none⟩) (m1 + 1) cap)
  simpa using this
theorem WrS.three {lo hi : Nat} {x y z : List Seg} (h1 : WrS w lo hi (x ++ y)) (h2 : WrS w lo hi (x ++ z)) (h3 : WrS w lo hi (y ++ z)) : WrS w lo hi (x ++ y ++ z) := by
  refine ⟨fun s hs => ?_, List.pairwise_append.2 ⟨h1.apart, (List.pairwise_append.1 h2.apart).2.1, fun s hs t ht => ?_⟩⟩
  · rcases List.mem_append.1 hs with hs | hs
    · exact h1.each s hs
    · exact h2.each s (List.mem_append_right _ hs)
  · rcases List.mem_append.1 hs with hs | hs
    · exact (List.pairwise_append.1 h2.apart).2.2 s hs t ht
    · exact (List.pairwise_append.1 h3.apart).2.2 s hs t ht
theorem Own3.wrs (h : Own3 w B g s hd a O n2 cO os A0 m0 d0 its0 A1 m1 d1 its1) : WrS w B w.heap.size (sgForm A0 m0 its0 A1 m1 its1 O n2 os) := by
  have h1 := h.f.a.both h.f.r h.f.ar
  have h2 := h.f.a.both h.f.o h.f.oa.symm
  have h3 := h.f.r.both h.f.o h.f.or_.symm
  simp only [Nat.mul_one] at h1 h2 h3
  exact WrS.three (x := sgII A0 m0 its0) (y := sgII A1 m1 its1) (z := [sgI O n2 os]) h1 h2 h3
end
/-- a formula tape of the call's own, as a value -/
def FvOut (s hd a : Int) (n0 n1 n2 : Nat) (ws rs : List (List Int)) (os : List Int) (w : World) (e : Ending) (w' : World) : Prop :=
  ∃ A0 c0 its0 A1 c1 its1 A2 c2, e = .returned (.agg #[i64 s, i64 hd, i64 a, .slice A0 n0 c0, .slice A1 n1 c1, .slice A2 n2 c2]) ∧ its0.map It.xs = ws ∧ its1.map It.xs = rs ∧ (∀ t ∈ its0, t.n ≤ t.c) ∧ (∀ t ∈ its1, t.n ≤ t.c) ∧ WrS w' w.heap.size w'.heap.size (sgForm A0 n0 its0 A1 n1 its1 A2 n2 os) ∧ Below w.heap.size w w'
set_option maxHeartbeats 8000000 in
set_option maxRecDepth 100000 in
theorem l27Own_c (gp : Nat) (s hd a : Int) (A0 : Option Addr) (n0 c0 : Nat) (its0 : List It) (A1 : Option Addr) (n1 c1 : Nat) (its1 : List It) (A2 : Option Addr) (n2 c2 : Nat) (os : List Int) (w : World) (h : FormP w gp s hd a A0 n0 c0 its0 A1 n1 c1 its1 A2 n2 c2 os) (hn0 : n0 ≤ 1000000) (hn1 : n1 ≤ 1000000) (hn2 : n2 ≤ 1000000) (hi0 : ∀ t ∈ its0, t.n ≤ 1000000) (hi1 : ∀ t ∈ its1, t.n ≤ 1000000) :
    Calls Try.prog 114 #[.pointer (some ⟨gp, 0, none⟩)] w (FvOut s hd a n0 n1 n2 (its0.map It.xs) (its1.map It.xs) os w) := by
  have HL0 := Lib.hid (RdII.len h.r0); have HL1 := Lib.hid (RdII.len h.r1)
  have HI0 := Lib.hid hi0; have HI1 := Lib.hid hi1
  obtain ⟨W, hW⟩ : ∃ W, w.alloc (.cells #[i64 0, i64 0, i64 0, .slice none 0 0, .slice none 0 0, .slice none 0 0] 29) = W := ⟨_, rfl⟩
  have BW := Lib.hid (show Below w.heap.size w W by rw [← hW]; exact below_size.alloc (Nat.le_refl _) _)
  have ZW := Lib.hid (show Blk W w.heap.size 29 #[i64 0, i64 0, i64 0, .slice none 0 0, .slice none 0 0, .slice none 0 0] by rw [← hW]; exact Blk.new w _ _)
  have HP := Lib.hid (h.below BW.out)
  have hwz : w.heap.size < W.heap.size := by rw [← hW]; simp
  clear h hi0 hi1
  simp only [i64] at hW
  go_enter Try.func114, Try.ntmps114
  go_wp2_with fail
  clear hW
  have EW : ∀ w1, Below W.drew.heap.size W.drew w1 → Below W.heap.size W w1 := fun w1 hb => below_of_drew hb
  refine MixA.wp_facts 21 [6, 7, 8, 9, 10, 11, 12, 13, 14, 15, 16, 17, 18, 19, 20, 21, 22, 23, 24, 25, 3] [[], [0], [1], [2], [], [4], [5], [6], [], [8], [9], [10], [], [], [], [14], [15], [16], [17], [3, 7, 11, 12, 13, 18], []]
    [MixA.fP (.pointer (some ⟨gp, 0, none⟩)),
     MixA.fP (.pointer (some ⟨gp, 0, none⟩)),
     MixA.fP (.pointer (some ⟨gp, 0, none⟩)),
     MixA.fP (.int .i64 s),
     MixA.fP (.pointer (some ⟨gp, 0, none⟩)),
     MixA.fP (.pointer (some ⟨gp, 0, none⟩)),
     MixA.fP (.pointer (some ⟨gp, 1, none⟩)),
     MixA.fP (.int .i64 hd),
     MixA.fP (.pointer (some ⟨gp, 0, none⟩)),
     MixA.fP (.pointer (some ⟨gp, 0, none⟩)),
     MixA.fP (.pointer (some ⟨gp, 2, none⟩)),
     MixA.fP (.int .i64 a),
     MixA.fC 25 0 #[],
     MixA.fC 25 0 #[],
     MixA.fP (.pointer (some ⟨gp, 0, none⟩)),
     MixA.fP (.pointer (some ⟨gp, 0, none⟩)),
     MixA.fP (.pointer (some ⟨gp, 5, none⟩)),
     MixA.fP (.slice A2 n2 c2),
     fOw n2 os,
     fA6,
     MixA.fB 29 #[i64 0, i64 0, i64 0, .slice none 0 0, .slice none 0 0, .slice none 0 0]]
    (by kernel_rfl) (by kernel_rfl) (fun t ht => Nat.lt_of_lt_of_eq (show t < 71 by revert t; decide) rfl) ?_ ?_
  · intro f hf
    simp only [List.mem_cons, List.not_mem_nil, or_false] at hf
    rcases hf with rfl | rfl | rfl | rfl | rfl | rfl | rfl | rfl | rfl | rfl | rfl | rfl | rfl | rfl | rfl | rfl | rfl | rfl | rfl | rfl | rfl
    · exact MixA.fP_st _
    · exact MixA.fP_st _
    · exact MixA.fP_st _
    · exact MixA.fP_st _
    · exact MixA.fP_st _
    · exact MixA.fP_st _
    · exact MixA.fP_st _
    · exact MixA.fP_st _
    · exact MixA.fP_st _
    · exact MixA.fP_st _
    · exact MixA.fP_st _
    · exact MixA.fP_st _
    · exact MixA.fC_st _ _ _
    · exact MixA.fC_st _ _ _
    · exact MixA.fP_st _
    · exact MixA.fP_st _
    · exact MixA.fP_st _
    · exact MixA.fP_st _
    · exact fOw_st _ _
    · exact fA6_st
    · exact MixA.fB_st _ _
  simp only [MixA.EachF]
  refine ⟨?_, ?_, ?_, ?_, ?_, ?_, ?_, ?_, ?_, ?_, ?_, ?_, ?_, ?_, ?_, ?_, ?_, ?_, ?_, ?_, ?_, ?_⟩
  · intro a1 w1 hf
    refine MixA.hop ⟨#[(.pointer (some ⟨gp, 0, none⟩)), undef, undef, undef, undef, undef, undef], []⟩ (by intro cs b e; cases e) rfl (show 6 < 7 by decide) ?_ ?_
    · intro x hx
      simp [Op.operands] at hx
      rcases hx with rfl
      · exact (hf.was (t := 0) (by decide) rfl).trans rfl
    go_wp2_with fail
    first | exact ⟨below_size, rfl⟩ | exact ⟨_, rfl, below_size, rfl⟩
  · intro a1 w1 hf
    refine MixA.hop ⟨#[undef, undef, undef, undef, undef, undef, (.pointer (some ⟨gp, 0, none⟩)), undef], []⟩ (by intro cs b e; cases e) rfl (show 7 < 8 by decide) ?_ ?_
    · intro x hx
      simp [Op.operands] at hx
      rcases hx with rfl
      · exact (hf.pure (j := 0) (by decide) rfl).trans rfl
    go_wp2_with fail
    first | exact ⟨below_size, rfl⟩ | exact ⟨_, rfl, below_size, rfl⟩
  · intro a1 w1 hf
    refine MixA.hop ⟨#[undef, undef, undef, undef, undef, undef, undef, (.pointer (some ⟨gp, 0, none⟩)), undef], []⟩ (by intro cs b e; cases e) rfl (show 8 < 9 by decide) ?_ ?_
    · intro x hx
      simp [Op.operands] at hx
      rcases hx with rfl
      · exact (hf.pure (j := 1) (by decide) rfl).trans rfl
    go_wp2_with fail
    first | exact ⟨below_size, rfl⟩ | exact ⟨_, rfl, below_size, rfl⟩
  · intro a1 w1 hf
    have E1 := EW w1 hf.below
    have hc0 : w1.cell? ⟨gp, 0, none⟩ = some (i64 s) := keepc E1 HP.out.d0
    clear E1
    refine MixA.hop ⟨#[undef, undef, undef, undef, undef, undef, undef, undef, (.pointer (some ⟨gp, 0, none⟩)), undef], []⟩ (by intro cs b e; cases e) rfl (show 9 < 10 by decide) ?_ ?_
    · intro x hx
      simp [Op.operands] at hx
      rcases hx with rfl
      · exact (hf.pure (j := 2) (by decide) rfl).trans rfl
    go_wp2_with fail
    first | exact ⟨below_size, rfl⟩ | exact ⟨_, rfl, below_size, rfl⟩
  · intro a1 w1 hf
    refine MixA.hop ⟨#[(.pointer (some ⟨gp, 0, none⟩)), undef, undef, undef, undef, undef, undef, undef, undef, undef, undef], []⟩ (by intro cs b e; cases e) rfl (show 10 < 11 by decide) ?_ ?_
    · intro x hx
      simp [Op.operands] at hx
      rcases hx with rfl
      · exact (hf.was (t := 0) (by decide) rfl).trans rfl
    go_wp2_with fail
    first | exact ⟨below_size, rfl⟩ | exact ⟨_, rfl, below_size, rfl⟩
  · intro a1 w1 hf
    refine MixA.hop ⟨#[undef, undef, undef, undef, undef, undef, undef, undef, undef, undef, (.pointer (some ⟨gp, 0, none⟩)), undef], []⟩ (by intro cs b e; cases e) rfl (show 11 < 12 by decide) ?_ ?_
    · intro x hx
      simp [Op.operands] at hx
      rcases hx with rfl
      · exact (hf.pure (j := 4) (by decide) rfl).trans rfl
    go_wp2_with fail
    first | exact ⟨below_size, rfl⟩ | exact ⟨_, rfl, below_size, rfl⟩
  · intro a1 w1 hf
    refine MixA.hop ⟨#[undef, undef, undef, undef, undef, undef, undef, undef, undef, undef, undef, (.pointer (some ⟨gp, 0, none⟩)), undef], []⟩ (by intro cs b e; cases e) rfl (show 12 < 13 by decide) ?_ ?_
    · intro x hx
      simp [Op.operands] at hx
      rcases hx with rfl
      · exact (hf.pure (j := 5) (by decide) rfl).trans rfl
    go_wp2_with fail
    first | exact ⟨below_size, rfl⟩ | exact ⟨_, rfl, below_size, rfl⟩
  · intro a1 w1 hf
    have E1 := EW w1 hf.below
    have hc0 : w1.cell? ⟨gp, 1, none⟩ = some (i64 hd) := keepc E1 HP.out.d1
    clear E1
    refine MixA.hop ⟨#[undef, undef, undef, undef, undef, undef, undef, undef, undef, undef, undef, undef, (.pointer (some ⟨gp, 1, none⟩)), undef], []⟩ (by intro cs b e; cases e) rfl (show 13 < 14 by decide) ?_ ?_
    · intro x hx
      simp [Op.operands] at hx
      rcases hx with rfl
      · exact (hf.pure (j := 6) (by decide) rfl).trans rfl
    go_wp2_with fail
    first | exact ⟨below_size, rfl⟩ | exact ⟨_, rfl, below_size, rfl⟩
  · intro a1 w1 hf
    refine MixA.hop ⟨#[(.pointer (some ⟨gp, 0, none⟩)), undef, undef, undef, undef, undef, undef, undef, undef, undef, undef, undef, undef, undef, undef], []⟩ (by intro cs b e; cases e) rfl (show 14 < 15 by decide) ?_ ?_
    · intro x hx
      simp [Op.operands] at hx
      rcases hx with rfl
      · exact (hf.was (t := 0) (by decide) rfl).trans rfl
    go_wp2_with fail
    first | exact ⟨below_size, rfl⟩ | exact ⟨_, rfl, below_size, rfl⟩
  · intro a1 w1 hf
    refine MixA.hop ⟨#[undef, undef, undef, undef, undef, undef, undef, undef, undef, undef, undef, undef, undef, undef, (.pointer (some ⟨gp, 0, none⟩)), undef], []⟩ (by intro cs b e; cases e) rfl (show 15 < 16 by decide) ?_ ?_
    · intro x hx
      simp [Op.operands] at hx
      rcases hx with rfl
      · exact (hf.pure (j := 8) (by decide) rfl).trans rfl
    go_wp2_with fail
    first | exact ⟨below_size, rfl⟩ | exact ⟨_, rfl, below_size, rfl⟩
  · intro a1 w1 hf
    refine MixA.hop ⟨#[undef, undef, undef, undef, undef, undef, undef, undef, undef, undef, undef, undef, undef, undef, undef, (.pointer (some ⟨gp, 0, none⟩)), undef], []⟩ (by intro cs b e; cases e) rfl (show 16 < 17 by decide) ?_ ?_
    · intro x hx
      simp [Op.operands] at hx
      rcases hx with rfl
      · exact (hf.pure (j := 9) (by decide) rfl).trans rfl
    go_wp2_with fail
    first | exact ⟨below_size, rfl⟩ | exact ⟨_, rfl, below_size, rfl⟩
  · intro a1 w1 hf
    have E1 := EW w1 hf.below
    have hc0 : w1.cell? ⟨gp, 2, none⟩ = some (i64 a) := keepc E1 HP.out.d2
    clear E1
    refine MixA.hop ⟨#[undef, undef, undef, undef, undef, undef, undef, undef, undef, undef, undef, undef, undef, undef, undef, undef, (.pointer (some ⟨gp, 2, none⟩)), undef], []⟩ (by intro cs b e; cases e) rfl (show 17 < 18 by decide) ?_ ?_
    · intro x hx
      simp [Op.operands] at hx
      rcases hx with rfl
      · exact (hf.pure (j := 10) (by decide) rfl).trans rfl
    go_wp2_with fail
    first | exact ⟨below_size, rfl⟩ | exact ⟨_, rfl, below_size, rfl⟩
  · intro a1 w1 hf
    refine MixA.hop ⟨#[undef, undef, undef, undef, undef, undef, undef, undef, undef, undef, undef, undef, undef, undef, undef, undef, undef, undef, undef], []⟩ (by intro cs b e; cases e) rfl (show 18 < 19 by decide) ?_ ?_
    · intro x hx
      simp [Op.operands] at hx
    go_wp2_with fail
    first | exact ⟨below_size.alloc (Nat.le_refl _) _, w1.heap.size, rfl, Nat.le_refl _, by simp, Blk.new w1 _ _⟩ | exact ⟨_, rfl, below_size.alloc (Nat.le_refl _) _, w1.heap.size, rfl, Nat.le_refl _, by simp, Blk.new w1 _ _⟩
  · intro a1 w1 hf
    refine MixA.hop ⟨#[undef, undef, undef, undef, undef, undef, undef, undef, undef, undef, undef, undef, undef, undef, undef, undef, undef, undef, undef, undef], []⟩ (by intro cs b e; cases e) rfl (show 19 < 20 by decide) ?_ ?_
    · intro x hx
      simp [Op.operands] at hx
    go_wp2_with fail
    first | exact ⟨below_size.alloc (Nat.le_refl _) _, w1.heap.size, rfl, Nat.le_refl _, by simp, Blk.new w1 _ _⟩ | exact ⟨_, rfl, below_size.alloc (Nat.le_refl _) _, w1.heap.size, rfl, Nat.le_refl _, by simp, Blk.new w1 _ _⟩
  · intro a1 w1 hf
    refine MixA.hop ⟨#[(.pointer (some ⟨gp, 0, none⟩)), undef, undef, undef, undef, undef, undef, undef, undef, undef, undef, undef, undef, undef, undef, undef, undef, undef, undef, undef, undef], []⟩ (by intro cs b e; cases e) rfl (show 20 < 21 by decide) ?_ ?_
    · intro x hx
      simp [Op.operands] at hx
      rcases hx with rfl
      · exact (hf.was (t := 0) (by decide) rfl).trans rfl
    go_wp2_with fail
    first | exact ⟨below_size, rfl⟩ | exact ⟨_, rfl, below_size, rfl⟩
  · intro a1 w1 hf
    refine MixA.hop ⟨#[undef, undef, undef, undef, undef, undef, undef, undef, undef, undef, undef, undef, undef, undef, undef, undef, undef, undef, undef, undef, (.pointer (some ⟨gp, 0, none⟩)), undef], []⟩ (by intro cs b e; cases e) rfl (show 21 < 22 by decide) ?_ ?_
    · intro x hx
      simp [Op.operands] at hx
      rcases hx with rfl
      · exact (hf.pure (j := 14) (by decide) rfl).trans rfl
    go_wp2_with fail
    first | exact ⟨below_size, rfl⟩ | exact ⟨_, rfl, below_size, rfl⟩
  · intro a1 w1 hf
    refine MixA.hop ⟨#[undef, undef, undef, undef, undef, undef, undef, undef, undef, undef, undef, undef, undef, undef, undef, undef, undef, undef, undef, undef, undef, (.pointer (some ⟨gp, 0, none⟩)), undef], []⟩ (by intro cs b e; cases e) rfl (show 22 < 23 by decide) ?_ ?_
    · intro x hx
      simp [Op.operands] at hx
      rcases hx with rfl
      · exact (hf.pure (j := 15) (by decide) rfl).trans rfl
    go_wp2_with fail
    first | exact ⟨below_size, rfl⟩ | exact ⟨_, rfl, below_size, rfl⟩
  · intro a1 w1 hf
    have E1 := EW w1 hf.below
    have hc0 : w1.cell? ⟨gp, 5, none⟩ = some (.slice A2 n2 c2) := keepc E1 HP.out.d5
    clear E1
    refine MixA.hop ⟨#[undef, undef, undef, undef, undef, undef, undef, undef, undef, undef, undef, undef, undef, undef, undef, undef, undef, undef, undef, undef, undef, undef, (.pointer (some ⟨gp, 5, none⟩)), undef], []⟩ (by intro cs b e; cases e) rfl (show 23 < 24 by decide) ?_ ?_
    · intro x hx
      simp [Op.operands] at hx
      rcases hx with rfl
      · exact (hf.pure (j := 16) (by decide) rfl).trans rfl
    go_wp2_with fail
    first | exact ⟨below_size, rfl⟩ | exact ⟨_, rfl, below_size, rfl⟩
  · intro a1 w1 hf
    obtain ⟨R, hR, _⟩ := hf.facts
    have hv23 : MixA.val a1 23 = .slice A2 n2 c2 := (hR 17 (by decide)).1
    have E1 := EW w1 hf.below
    have HQ := Lib.hid (show RdI w1 A2 n2 os from RdI.below HP.out.r2 E1)
    clear hR E1
    refine MixA.hop ⟨#[undef, undef, undef, undef, undef, undef, undef, undef, undef, undef, undef, undef, undef, undef, undef, undef, undef, undef, undef, undef, undef, undef, undef, (.slice A2 n2 c2), undef], []⟩ (by intro cs b e; cases e) rfl (show 24 < 25 by decide) ?_ ?_
    · intro x hx
      simp [Op.operands, Call.operands] at hx
      rcases hx with rfl | rfl
      · rfl
      · exact hv23.trans rfl
    go_wp2_with fail
    refine (l00OwnX_c A2 n2 c2 os _ (by exact HQ.out) (by omega)).mono ?_
    rintro e w2 ⟨A3, cap2, rfl, hw2, hb2⟩
    have W2 := Lib.hid hw2; have B2 := Lib.hid hb2
    clear hw2 hb2
    go_wp2_with fail
    exact ⟨B2.out, A3, cap2, rfl, W2.out, fun ad e => (W2.out.block e).2.1⟩
  · intro a1 w1 hf
    obtain ⟨R, hR, _⟩ := hf.facts
    have hv9 : MixA.val a1 9 = .int .i64 s := (hR 3 (by decide)).1
    have hv13 : MixA.val a1 13 = .int .i64 hd := (hR 7 (by decide)).1
    have hv17 : MixA.val a1 17 = .int .i64 a := (hR 11 (by decide)).1
    obtain ⟨g18, hv18, _⟩ : MixA.fC 25 0 #[] [] (MixA.val a1 18) (R 12).1 (R 12).2 w1 := (hR 12 (by decide)).1
    obtain ⟨g19, hv19, _⟩ : MixA.fC 25 0 #[] [] (MixA.val a1 19) (R 13).1 (R 13).2 w1 := (hR 13 (by decide)).1
    obtain ⟨A24, c24, hv24, _⟩ : fOw n2 os [] (MixA.val a1 24) (R 18).1 (R 18).2 w1 := (hR 18 (by decide)).1
    clear hR
    refine MixA.hop ⟨#[undef, undef, undef, undef, undef, undef, undef, undef, undef, (.int .i64 s), undef, undef, undef, (.int .i64 hd), undef, undef, undef, (.int .i64 a), (.slice (some ⟨g18, 0, none⟩) 0 0), (.slice (some ⟨g19, 0, none⟩) 0 0), undef, undef, undef, undef, (.slice A24 n2 c24), undef], []⟩ (by intro cs b e; cases e) rfl (show 25 < 26 by decide) ?_ ?_
    · intro x hx
      simp [Op.operands] at hx
      rcases hx with rfl | rfl | rfl | rfl | rfl | rfl
      · exact hv9.trans rfl
      · exact hv13.trans rfl
      · exact hv17.trans rfl
      · exact hv18.trans rfl
      · exact hv19.trans rfl
      · exact hv24.trans rfl
    go_wp2_with fail
    first | exact ⟨_, rfl, below_size, rfl⟩ | exact ⟨below_size, rfl⟩
  · intro a1 w1 hf
    refine MixA.hop ⟨#[undef, undef, undef, undef], []⟩ (by intro cs b e; cases e) rfl (show 3 < 4 by decide) ?_ ?_
    · intro x hx
      simp [Op.operands] at hx
    go_wp2_with fail
    first | exact ⟨below_size.alloc (Nat.le_refl _) _, w1.heap.size, rfl, Nat.le_refl _, by simp, Blk.new w1 _ _⟩ | exact ⟨_, rfl, below_size.alloc (Nat.le_refl _) _, w1.heap.size, rfl, Nat.le_refl _, by simp, Blk.new w1 _ _⟩
  · intro a1 w1 hf
    obtain ⟨R, hR, hdj⟩ := hf.facts
    have hv9 : MixA.val a1 9 = .int .i64 s := (hR 3 (by decide)).1
    have hv13 : MixA.val a1 13 = .int .i64 hd := (hR 7 (by decide)).1
    have hv17 : MixA.val a1 17 = .int .i64 a := (hR 11 (by decide)).1
    have hv23 : MixA.val a1 23 = .slice A2 n2 c2 := (hR 17 (by decide)).1
    obtain ⟨g18, hv18, l18, r18, h18⟩ : MixA.fC 25 0 #[] [] (MixA.val a1 18) (R 12).1 (R 12).2 w1 := (hR 12 (by decide)).1
    obtain ⟨g19, hv19, l19, r19, h19⟩ : MixA.fC 25 0 #[] [] (MixA.val a1 19) (R 13).1 (R 13).2 w1 := (hR 13 (by decide)).1
    obtain ⟨A24, c24, hv24, o24, r24⟩ : fOw n2 os [] (MixA.val a1 24) (R 18).1 (R 18).2 w1 := (hR 18 (by decide)).1
    have hv25 : MixA.val a1 25 = .agg #[MixA.val a1 9, MixA.val a1 13, MixA.val a1 17, MixA.val a1 18, MixA.val a1 19, MixA.val a1 24] := (hR 19 (by decide)).1
    obtain ⟨g3, hv3, l3, r3, h3⟩ : MixA.fB 29 #[i64 0, i64 0, i64 0, .slice none 0 0, .slice none 0 0, .slice none 0 0] [] (MixA.val a1 3) (R 20).1 (R 20).2 w1 := (hR 20 (by decide)).1
    rw [hv9, hv13, hv17, hv18, hv19, hv24] at hv25
    have b18 := (hR 12 (by decide)).2; have b19 := (hR 13 (by decide)).2; have b24 := (hR 18 (by decide)).2; have b3 := (hR 20 (by decide)).2
    have d1 := hdj 12 13 (by decide) (by decide) (by decide)
    have d2 := hdj 12 18 (by decide) (by decide) (by decide)
    have d3 := hdj 13 18 (by decide) (by decide) (by decide)
    have d4 := hdj 12 20 (by decide) (by decide) (by decide)
    have d5 := hdj 13 20 (by decide) (by decide) (by decide)
    have d6 := hdj 18 20 (by decide) (by decide) (by decide)
    have E1 := Lib.hid (below_of_drew hf.below)
    have BS := Lib.hid (Own3.start (B := W.heap.size) (s := s) (hd := hd) (a := a) (o24.wide (by exact b24.1)) (fun ad e => ⟨(o24.block e).1, r24 ad e⟩) h18 l18 r18 h19 l19 r19 h3 l3 r3 b18.1 b19.1 b3.1 d1 d2 d3 d4 d5 d6)
    have m0 := h3.cell 0; have m1 := h3.cell 1; have m2 := h3.cell 2; have m3 := h3.cell 3; have m4 := h3.cell 4; have m5 := h3.cell 5
    have f0 := h3.frozen 0; have f1 := h3.frozen 1; have f2 := h3.frozen 2; have f3 := h3.frozen 3; have f4 := h3.frozen 4; have f5 := h3.frozen 5
    simp at m0 m1 m2 m3 m4 m5
    have HG3 := Lib.hid (show W.heap.size ≤ g3 from Nat.le_trans b3.1 l3)
    rw [hf.act]
    clear hR hdj l18 r18 h18 l19 r19 h19 o24 r24 l3 r3 h3 b18 b19 b24 b3 d1 d2 d3 d4 d5 d6 EW
    simp only [List.foldl_cons, List.foldl_nil, hv9, hv13, hv17, hv18, hv19, hv23, hv24, hv25, hv3]
    clear hv9 hv13 hv17 hv18 hv19 hv23 hv24 hv25 hv3 hf
    simp only [Act.put, List.setIfInBounds_toArray, List.set_cons_succ, List.set_cons_zero]
    go_wp2_with fail
    have HB0 := Lib.hid (below_set6 (u0 := i64 s) (u1 := i64 hd) (u2 := i64 a) (u3 := .slice (some ⟨g18, 0, none⟩) 0 0) (u4 := .slice (some ⟨g19, 0, none⟩) 0 0) (u5 := .slice A24 n2 c24) E1.out HG3.out)
    clear m0 m1 m2 m3 m4 m5 f0 f1 f2 f3 f4 f5 E1
    obtain ⟨w2, hw2⟩ : ∃ w2, (((((w1.setCell ⟨g3, 0, none⟩ (i64 s)).setCell ⟨g3, 1, none⟩ (i64 hd)).setCell ⟨g3, 2, none⟩ (i64 a)).setCell ⟨g3, 3, none⟩ (.slice (some ⟨g18, 0, none⟩) 0 0)).setCell ⟨g3, 4, none⟩ (.slice (some ⟨g19, 0, none⟩) 0 0)).setCell ⟨g3, 5, none⟩ (.slice A24 n2 c24) = w2 := ⟨_, rfl⟩
    rw [hw2] at BS HB0
    simp only [i64] at hw2
    try rw [hw2]
    clear hw2
    go_loopw [4] (fun iv wr => ∃ (k : Nat) (A0' : Option Addr) (d0 : Nat) (js0 : List It), k ≤ n0 ∧ iv = .int .i64 k ∧ Hid (js0.map It.xs = (its0.take k).map It.xs) ∧ Hid (∀ t ∈ js0, t.n ≤ t.c) ∧ Hid (Own3 wr W.heap.size g3 s hd a A24 n2 c24 os A0' k d0 js0 (some ⟨g19, 0, none⟩) 0 0 []) ∧ Below W.heap.size W wr) (fun iv _ => n0 - (intOf iv).toNat)
    case atStart => exact ⟨0, _, 0, [], by omega, rfl, rfl, (fun t ht => by cases ht), BS.out, HB0.out⟩
    case round =>
      clear BS HB0
      obtain ⟨k, A0', d0, js0, hk, rfl, hx, hcaps, HO, hb⟩ := hrel
      have HB := Lib.hid hb
      have hwz2 := hb.size
      have kf := keepc hb HP.out.d3
      by_cases hlt : k < n0
      · obtain ⟨ad, t, hA, hab, ht, hct, hrt⟩ := RdII.at_ (HP.out.r0.below hb) hlt
        have hti := HI0.out t (List.mem_of_getElem? ht)
        have HT := Lib.hid ht; have HR := Lib.hid hrt.head
        have g3c := HO.out.blk.cell 3
        simp at g3c
        clear ht hrt hb
        subst hA
        have x0 := Ext.cell g3c; have x1 := Ext.cell kf; have x2 := Ext.cell hct
        go_wp2_with fail
        refine Mix.wp_region_mix [0, 3, 0, 0, 0, 3, 0, 0, 3, 1, 1, 2, 0, 2] (fun w' => ∃ x : Ext wr, w' = x.w) (by kernel_rfl) (by kernel_rfl) (InExt.drew _) ?_
        repeat (first | (refine Mix.wpMix_read (by rfl) ?_; go_big_quiet_step (fail); refine wpQuiet_nil ?_) | (refine Mix.wpMix_pure (by rfl) ?_; go_big_quiet_step (fail); refine wpQuiet_nil ?_))
        refine Mix.wpMix_chg (by rfl) (fun K hK => ?_)
        go_wp2_with fail
        refine (l00OwnX_c t.A t.n t.c t.xs _ (by exact HR.out) hti).mono ?_
        rintro e w4 ⟨A4, c4, rfl, ho4, hb4⟩
        have E4 := Lib.hid (show Below wr.heap.size wr w4 from ⟨hb4.os, hb4.tape, hb4.output, hb4.size, hb4.block⟩)
        have W4 := Lib.hid (show Wr w4 wr.heap.size w4.heap.size A4 t.n (t.xs.map i64) by have := ho4.wrK; rw [Nat.mul_one] at this; exact this.wider (Nat.le_refl _) (Nat.le_refl _))
        have hc4 := ho4.cap
        clear ho4 hb4
        go_wp2_with fail
        refine hK _ _ ⟨⟨_, E4.out⟩, rfl⟩ ?_
        clear hK K
        repeat (first | (refine Mix.wpMix_read (by rfl) ?_; go_big_quiet_step (fail); refine wpQuiet_nil ?_) | (refine Mix.wpMix_pure (by rfl) ?_; go_big_quiet_step (fail); refine wpQuiet_nil ?_))
        refine Mix.wpMix_chg (by rfl) (fun K hK => ?_)
        go_wp2_with fail
        refine hK _ _ ⟨⟨_, below_chain E4.out E4.out.size (below_size.alloc (Nat.le_refl _) _)⟩, rfl⟩ ?_
        clear hK K
        obtain ⟨w5, hw5⟩ : ∃ w5, w4.alloc (.cells #[.slice A4 t.n c4] 25) = w5 := ⟨_, rfl⟩
        have E5 := Lib.hid (show Below wr.heap.size wr w5 by rw [← hw5]; exact below_chain E4.out E4.out.size (below_size.alloc (Nat.le_refl _) _))
        have C5 := Lib.hid (show w5.cell? ⟨w4.heap.size, 0, none⟩ = some (.slice A4 t.n c4) by rw [← hw5]; exact new_cell _ _ _ 0)
        have W5 := Lib.hid (show Wr w5 wr.heap.size w5.heap.size A4 t.n (t.xs.map i64) by rw [← hw5]; exact (W4.out.alloc _).wider (Nat.le_refl _) (by simp))
        rw [hw5]
        have hzq : wr.heap.size ≤ w5.heap.size := E5.out.size
        clear hw5 x0 x1 x2 W4 E4
        refine Mix.wpMix_tail (by rfl) (fun K hK => ?_)
        refine wp_app1 (by rfl) _ _ 27 25 (.slice none 0 0) 24 (by rfl) Try.underlying27 info_I64S6 rfl W.heap.size A0' k d0 (js0.map hdI) (by rfl) (by exact (HO.out.f.keep E5.out).a.own) w4.heap.size (.slice A4 t.n c4) (by rfl) (by exact C5.out) rfl (by omega) (by omega) (by omega) ?_
        intro g' cap w6 own6 hb6 hk6 hg6 hz6
        have O67 := HO.out.wall (i := ⟨A4, t.n, c4, t.xs⟩) (by omega) E5.out W5.out own6 hk6 hg6 hz6
        have G6 := Lib.hid O67.1; have O7 := Lib.hid O67.2
        have B7 := Lib.hid (((HB.out.trans (E5.out.mono (by omega))).trans hb6).setCell (p := ⟨g3, 3, none⟩) HG3.out (.slice (some ⟨g', 0, none⟩) (k + 1) cap))
        have g6c := G6.out.cell 3; have g6f := G6.out.frozen 3
        simp at g6c
        clear own6 hb6 hk6 hg6 O67
        go_wp2_with fail
        refine hK _ _ ?_
        clear hK K
        repeat (first | (refine Mix.wpMix_read (by rfl) ?_; go_big_quiet_step (fail); refine wpQuiet_nil ?_) | (refine Mix.wpMix_pure (by rfl) ?_; go_big_quiet_step (fail); refine wpQuiet_nil ?_))
        refine Mix.wpMix_tail (by rfl) (fun K hK => ?_)
        go_wp2_with fail
        refine hK _ _ ?_
        clear hK K
        (refine Mix.wpMix_nil ?_; try simp only [Exit.then])
        have XS := Lib.hid (show (js0 ++ [(⟨A4, t.n, c4, t.xs⟩ : It)]).map It.xs = (its0.take (k + 1)).map It.xs by rw [take_at HT.out, List.map_append, List.map_append, hx.out]; rfl)
        have CS := Lib.hid (show ∀ u ∈ js0 ++ [(⟨A4, t.n, c4, t.xs⟩ : It)], u.n ≤ u.c from fun u hu => by
          rcases List.mem_append.1 hu with hu | hu
          · exact hcaps.out u hu
          · rw [List.mem_singleton] at hu; subst hu; exact hc4)
        clear g6c g6f g3c kf hct
        go_wp2_with fail
        go_roundw
        case rel => exact ⟨k + 1, some ⟨g', 0, none⟩, cap, js0 ++ [(⟨A4, t.n, c4, t.xs⟩ : It)], by omega, by go_num, XS.out, CS.out, O7.out, B7.out⟩
        case measure => simp [intOf]; omega
      · have hkn : n0 = k := by omega
        subst hkn
        clear hb
        go_wp2_with fail
        have HX0 := Lib.hid (show js0.map It.xs = its0.map It.xs ∧ ∀ t ∈ js0, t.n ≤ t.c from ⟨by rw [hx.out, List.take_of_length_le (by rw [HL0.out]; exact Nat.le_refl _)], hcaps.out⟩)
        have HO0 := HO; have HB2 := HB
        clear hx hcaps HO HB kf hwz2
        go_loopw [5] (fun iv wr => ∃ (k : Nat) (A1' : Option Addr) (d1 : Nat) (js1 : List It), k ≤ n1 ∧ iv = .int .i64 k ∧ Hid (js1.map It.xs = (its1.take k).map It.xs) ∧ Hid (∀ t ∈ js1, t.n ≤ t.c) ∧ Hid (Own3 wr W.heap.size g3 s hd a A24 n2 c24 os A0' n0 d0 js0 A1' k d1 js1) ∧ Below W.heap.size W wr) (fun iv _ => n1 - (intOf iv).toNat)
        case atStart => exact ⟨0, _, 0, [], by omega, rfl, rfl, (fun t ht => by cases ht), HO0.out, HB2.out⟩
        case round =>
          clear HO0 HB2
          obtain ⟨k, A1', d1, js1, hk, rfl, hx, hcaps, HO, hb⟩ := hrel
          have HB := Lib.hid hb
          have hwz2 := hb.size
          have kf := keepc hb HP.out.d4
          by_cases hlt : k < n1
          · obtain ⟨ad, t, hA, hab, ht, hct, hrt⟩ := RdII.at_ (HP.out.r1.below hb) hlt
            have hti := HI1.out t (List.mem_of_getElem? ht)
            have HT := Lib.hid ht; have HR := Lib.hid hrt.head
            have g3c := HO.out.blk.cell 4
            simp at g3c
            clear ht hrt hb
            subst hA
            have x0 := Ext.cell g3c; have x1 := Ext.cell kf; have x2 := Ext.cell hct
            go_wp2_with fail
            refine Mix.wp_region_mix [0, 3, 0, 0, 0, 3, 0, 0, 3, 1, 1, 2, 0, 2] (fun w' => ∃ x : Ext wr, w' = x.w) (by kernel_rfl) (by kernel_rfl) (InExt.drew _) ?_
            repeat (first | (refine Mix.wpMix_read (by rfl) ?_; go_big_quiet_step (fail); refine wpQuiet_nil ?_) | (refine Mix.wpMix_pure (by rfl) ?_; go_big_quiet_step (fail); refine wpQuiet_nil ?_))
            refine Mix.wpMix_chg (by rfl) (fun K hK => ?_)
            go_wp2_with fail
            refine (l00OwnX_c t.A t.n t.c t.xs _ (by exact HR.out) hti).mono ?_
            rintro e w4 ⟨A4, c4, rfl, ho4, hb4⟩
            have E4 := Lib.hid (show Below wr.heap.size wr w4 from ⟨hb4.os, hb4.tape, hb4.output, hb4.size, hb4.block⟩)
            have W4 := Lib.hid (show Wr w4 wr.heap.size w4.heap.size A4 t.n (t.xs.map i64) by have := ho4.wrK; rw [Nat.mul_one] at this; exact this.wider (Nat.le_refl _) (Nat.le_refl _))
            have hc4 := ho4.cap
            clear ho4 hb4
            go_wp2_with fail
            refine hK _ _ ⟨⟨_, E4.out⟩, rfl⟩ ?_
            clear hK K
            repeat (first | (refine Mix.wpMix_read (by rfl) ?_; go_big_quiet_step (fail); refine wpQuiet_nil ?_) | (refine Mix.wpMix_pure (by rfl) ?_; go_big_quiet_step (fail); refine wpQuiet_nil ?_))
            refine Mix.wpMix_chg (by rfl) (fun K hK => ?_)
            go_wp2_with fail
            refine hK _ _ ⟨⟨_, below_chain E4.out E4.out.size (below_size.alloc (Nat.le_refl _) _)⟩, rfl⟩ ?_
            clear hK K
            obtain ⟨w5, hw5⟩ : ∃ w5, w4.alloc (.cells #[.slice A4 t.n c4] 25) = w5 := ⟨_, rfl⟩
            have E5 := Lib.hid (show Below wr.heap.size wr w5 by rw [← hw5]; exact below_chain E4.out E4.out.size (below_size.alloc (Nat.le_refl _) _))
            have C5 := Lib.hid (show w5.cell? ⟨w4.heap.size, 0, none⟩ = some (.slice A4 t.n c4) by rw [← hw5]; exact new_cell _ _ _ 0)
            have W5 := Lib.hid (show Wr w5 wr.heap.size w5.heap.size A4 t.n (t.xs.map i64) by rw [← hw5]; exact (W4.out.alloc _).wider (Nat.le_refl _) (by simp))
            rw [hw5]
            have hzq : wr.heap.size ≤ w5.heap.size := E5.out.size
            clear hw5 x0 x1 x2 W4 E4
            refine Mix.wpMix_tail (by rfl) (fun K hK => ?_)
            refine wp_app1 (by rfl) _ _ 27 25 (.slice none 0 0) 24 (by rfl) Try.underlying27 info_I64S6 rfl W.heap.size A1' k d1 (js1.map hdI) (by rfl) (by exact (HO.out.f.keep E5.out).r.own) w4.heap.size (.slice A4 t.n c4) (by rfl) (by exact C5.out) rfl (by omega) (by omega) (by omega) ?_
            intro g' cap w6 own6 hb6 hk6 hg6 hz6
            have O67 := HO.out.rep (i := ⟨A4, t.n, c4, t.xs⟩) (by omega) E5.out W5.out own6 hk6 hg6 hz6
            have G6 := Lib.hid O67.1; have O7 := Lib.hid O67.2
            have B7 := Lib.hid (((HB.out.trans (E5.out.mono (by omega))).trans hb6).setCell (p := ⟨g3, 4, none⟩) HG3.out (.slice (some ⟨g', 0, none⟩) (k + 1) cap))
            have g6c := G6.out.cell 4; have g6f := G6.out.frozen 4
            simp at g6c
            clear own6 hb6 hk6 hg6 O67
            go_wp2_with fail
            refine hK _ _ ?_
            clear hK K
            repeat (first | (refine Mix.wpMix_read (by rfl) ?_; go_big_quiet_step (fail); refine wpQuiet_nil ?_) | (refine Mix.wpMix_pure (by rfl) ?_; go_big_quiet_step (fail); refine wpQuiet_nil ?_))
            refine Mix.wpMix_tail (by rfl) (fun K hK => ?_)
            go_wp2_with fail
            refine hK _ _ ?_
            clear hK K
            (refine Mix.wpMix_nil ?_; try simp only [Exit.then])
            have XS := Lib.hid (show (js1 ++ [(⟨A4, t.n, c4, t.xs⟩ : It)]).map It.xs = (its1.take (k + 1)).map It.xs by rw [take_at HT.out, List.map_append, List.map_append, hx.out]; rfl)
            have CS := Lib.hid (show ∀ u ∈ js1 ++ [(⟨A4, t.n, c4, t.xs⟩ : It)], u.n ≤ u.c from fun u hu => by
              rcases List.mem_append.1 hu with hu | hu
              · exact hcaps.out u hu
              · rw [List.mem_singleton] at hu; subst hu; exact hc4)
            clear g6c g6f g3c kf hct
            go_wp2_with fail
            go_roundw
            case rel => exact ⟨k + 1, some ⟨g', 0, none⟩, cap, js1 ++ [(⟨A4, t.n, c4, t.xs⟩ : It)], by omega, by go_num, XS.out, CS.out, O7.out, B7.out⟩
            case measure => simp [intOf]; omega
          · obtain rfl : k = n1 := by omega
            clear hb
            have Z := Lib.hid (ZW.out.keep HB.out)
            have z0 := Z.out.cell 0; have z1 := Z.out.cell 1; have z2 := Z.out.cell 2; have z3 := Z.out.cell 3; have z4 := Z.out.cell 4; have z5 := Z.out.cell 5
            have f0 := Z.out.frozen 0; have f1 := Z.out.frozen 1; have f2 := Z.out.frozen 2; have f3 := Z.out.frozen 3; have f4 := Z.out.frozen 4; have f5 := Z.out.frozen 5
            have m0 := HO.out.blk.cell 0; have m1 := HO.out.blk.cell 1; have m2 := HO.out.blk.cell 2; have m3 := HO.out.blk.cell 3; have m4 := HO.out.blk.cell 4; have m5 := HO.out.blk.cell 5
            simp at z0 z1 z2 z3 z4 z5 m0 m1 m2 m3 m4 m5
            go_wp2_with fail
            refine bodyPost_ret (v := .agg #[i64 s, i64 hd, i64 a, .slice A0' n0 d0, .slice A1' k d1, .slice A24 n2 c24]) (by simp [results, Try.results114, go_sem, z0, z1, z2, z3, z4, z5]) rfl ?_
            have hS := HO.out.wrs.set6 (u0 := i64 s) (u1 := i64 hd) (u2 := i64 a) (u3 := .slice A0' n0 d0) (u4 := .slice A1' k d1) (u5 := .slice A24 n2 c24) hwz
            exact ⟨A0', d0, js0, A1', d1, js1, A24, c24, rfl, HX0.out.1, by rw [hx.out, List.take_of_length_le (by rw [HL1.out]; exact Nat.le_refl _)], HX0.out.2, hcaps.out, hS.wider (by omega) (by simp), below_set6 (BW.out.trans (HB.out.mono BW.out.size)) (Nat.le_refl _)⟩
end Go.Proofs.Ytmmgejnhfpfmnaa
