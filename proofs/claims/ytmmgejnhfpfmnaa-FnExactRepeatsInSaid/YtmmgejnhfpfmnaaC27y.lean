/-
  Contracts of chapter 27: RepeatsIn of the reference.
-/
import Derived.Test.YtmmgejnhfpfmnaaC27x
import Derived.Test.YtmmgejnhfpfmnaaC27b
namespace Go.Proofs.Ytmmgejnhfpfmnaa
open Go.RowKit

/-- what RepeatsIn answers -/
def rpR (sy st : Int) (rs : List Rule3) (s : Int) (a b c : List Int) : FR × Int :=
  if !(machB sy st rs && wordB a && wordB b && wordB c) then (zeroF, 1)
  else if !(inB s 0 (st - 1) && allB 0 (sy - 1) a && allB 0 (sy - 1) b && allB 0 (sy - 1) c) then (zeroF, 2)
  else if lenB a b c then foundF s (findF a b c (b.length - a.length)) else (zeroF, 7)
theorem sumN_bound {B : Nat} : ∀ {its : List It}, (∀ t ∈ its, t.n ≤ B) → sumN its ≤ its.length * B
  | [], _ => by simp [sumN]
  | t :: l, h => by
    have h1 := h t (by simp)
    have h2 := sumN_bound (its := l) fun u hu => h u (by simp [hu])
    rw [sumN, List.length_cons, Nat.add_mul]; omega
/-- .. in memory of the call's own -/
def FoOut2 (R : FR × Int) (w : World) (e : Ending) (w' : World) : Prop :=
  ∃ A0 n0 c0 its0 A1 n1 c1 its1 A2 n2 c2, e = .returned (.tuple #[.agg #[.int .i64 R.1.1, .int .i64 R.1.2.1, .int .i64 R.1.2.2.1, .slice A0 n0 c0, .slice A1 n1 c1, .slice A2 n2 c2], .int .i64 R.2]) ∧
    WrS w' w.heap.size w'.heap.size (sgII A0 n0 its0 ++ sgII A1 n1 its1 ++ [sgI A2 n2 R.1.2.2.2.2.2]) ∧
    (n0 ≤ 1000 ∧ n1 ≤ 1000 ∧ n2 ≤ 1000 ∧ (∀ t ∈ its0, t.n ≤ 100000) ∧ sumN its0 ≤ 100000000 ∧ its0.map It.xs = R.1.2.2.2.1 ∧ (∀ t ∈ its1, t.n ≤ 100000) ∧ sumN its1 ≤ 100000000 ∧ its1.map It.xs = R.1.2.2.2.2.1) ∧ Below w.heap.size w w'
theorem FoOut.two {R : FR × Int} {w w' : World} {e : Ending} (h : FoOut R w e w') : FoOut2 R w e w' := by
  obtain ⟨A0, n0, c0, its0, A1, n1, c1, its1, A2, n2, c2, he, ⟨h1, h2, h3, h4, h5, h6, h7, h8⟩, hb⟩ := h
  have l0 := RdII.len h1.rd.left.left; have l1 := RdII.len h1.rd.left.right
  have s0 := sumN_bound h7; have s1 := sumN_bound h8
  have m0 : its0.length * 100000 ≤ 1000 * 100000 := Nat.mul_le_mul_right _ (by omega)
  have m1 : its1.length * 100000 ≤ 1000 * 100000 := Nat.mul_le_mul_right _ (by omega)
  exact ⟨A0, n0, c0, its0, A1, n1, c1, its1, A2, n2, c2, he, h1, ⟨h4, h5, h6, h7, by omega, h2, h8, by omega, h3⟩, hb⟩
theorem FoOut.good3 {w wr w2 w3 : World} {g : Nat} {u0 u1 u2 u3 u4 u5 : Value} {s : Int} {F : Fd} {A0 : Option Addr} {n0 c0 : Nat} {its0 : List It} {A1 : Option Addr} {n1 c1 : Nat} {its1 : List It} {A2 : Option Addr} {n2 c2 : Nat}
    (hr : FoR (formF s F) wr.heap.size w2 A0 n0 its0 A1 n1 its1 A2 n2) (hb : Below w2.heap.size w2 w3) (hw : Below w.heap.size w wr) (hb2 : Below wr.heap.size wr w2) (hlt : g < wr.heap.size) (hg : w.heap.size ≤ g) :
    FoOut (foundF s (some F)) w (.returned (.tuple #[.agg #[i64 s, i64 (formF s F).2.1, i64 (formF s F).2.2.1, .slice A0 n0 c0, .slice A1 n1 c1, .slice A2 n2 c2], i64 0]))
      ((((((w3.setCell ⟨g, 0, none⟩ u0).setCell ⟨g, 1, none⟩ u1).setCell ⟨g, 2, none⟩ u2).setCell ⟨g, 3, none⟩ u3).setCell ⟨g, 4, none⟩ u4).setCell ⟨g, 5, none⟩ u5) := by
  have hs2 := hb2.size; have hs1 := hw.size; have hs3 := hb.size
  obtain ⟨h1, h2, h3, h4, h5, h6, h7, h8⟩ := hr
  exact ⟨A0, n0, c0, its0, A1, n1, c1, its1, A2, n2, c2, rfl, ⟨(((h1.below hb).set6 hlt).wider (by omega) (by simpa using hs3)), h2, h3, h4, h5, h6, h7, h8⟩, below_set6 ((hw.trans (hb2.mono (by omega))).trans (hb.mono (by omega))) hg⟩
set_option maxHeartbeats 8000000 in
set_option maxRecDepth 100000 in
theorem sRepeatsIn_f (sy st : Int) (A : Option Addr) (n cp : Nat) (rs : List Rule3) (s : Int) (A1 : Option Addr) (n1 c1 : Nat) (a : List Int) (A2 : Option Addr) (n2 c2 : Nat) (b : List Int) (A3 : Option Addr) (n3 c3 : Nat) (c : List Int) (w : World)
    (h : RdS w [sgX enc3 3 A n rs]) (h' : RdI w A1 n1 a) (h'' : RdI w A2 n2 b) (h''' : RdI w A3 n3 c) (hn : n ≤ 2000000) (hn' : n1 ≤ 2000000) (hn'' : n2 ≤ 2000000) (hn''' : n3 ≤ 2000000) (hnc1 : n1 ≤ c1) (hnc2 : n2 ≤ c2) :
    Calls Try.prog 9 #[.agg #[.int .i64 sy, .int .i64 st, .slice A n cp], .int .i64 s, .slice A1 n1 c1, .slice A2 n2 c2, .slice A3 n3 c3] w (FoOut (rpR sy st rs s a b c) w) := by
  replace h : Rd3 w A n rs := h.head
  have HL1 := Lib.hid h'.len; have HL2 := Lib.hid h''.len; have HL3 := Lib.hid h'''.len
  obtain ⟨w0, hw0⟩ : ∃ w0, (w.alloc (.cells #[i64 sy, i64 st, .slice A n cp] 34)).alloc (.cells #[i64 0, i64 0, i64 0, .slice none 0 0, .slice none 0 0, .slice none 0 0] 29) = w0 := ⟨_, rfl⟩
  have B0 := Lib.hid (show Below w.heap.size w w0 by rw [← hw0]; exact (below_size.alloc (Nat.le_refl _) _).alloc (by simp) _)
  have M0 := Lib.hid (show MachP w0 w.heap.size sy st A n cp rs by
    rw [← hw0]
    have hm := (Blk.new w 34 #[i64 sy, i64 st, .slice A n cp]).alloc (.cells #[i64 0, i64 0, i64 0, .slice none 0 0, .slice none 0 0, .slice none 0 0] 29)
    exact ⟨hm.cell 0, hm.cell 1, hm.cell 2, (h.alloc _).alloc _⟩)
  have Z0 := Lib.hid (show Blk w0 (w.heap.size + 1) 29 #[i64 0, i64 0, i64 0, .slice none 0 0, .slice none 0 0, .slice none 0 0] by
    have := Blk.new (w.alloc (.cells #[i64 sy, i64 st, .slice A n cp] 34)) 29 #[i64 0, i64 0, i64 0, .slice none 0 0, .slice none 0 0, .slice none 0 0]
    rw [World.size_alloc] at this
    rw [← hw0]; exact this)
  have HA := Lib.hid h'; have HB := Lib.hid h''; have HC := Lib.hid h'''
  obtain ⟨u1, i1⟩ : ∃ u, machB sy st rs = u := ⟨_, rfl⟩
  obtain ⟨u2, i2⟩ : ∃ u, wordB a = u := ⟨_, rfl⟩
  obtain ⟨u3, i3⟩ : ∃ u, wordB b = u := ⟨_, rfl⟩
  obtain ⟨u4, i4⟩ : ∃ u, wordB c = u := ⟨_, rfl⟩
  obtain ⟨v1, j1⟩ : ∃ u, inB s 0 (st - 1) = u := ⟨_, rfl⟩
  obtain ⟨v2, j2⟩ : ∃ u, allB 0 (sy - 1) a = u := ⟨_, rfl⟩
  obtain ⟨v3, j3⟩ : ∃ u, allB 0 (sy - 1) b = u := ⟨_, rfl⟩
  obtain ⟨v4, j4⟩ : ∃ u, allB 0 (sy - 1) c = u := ⟨_, rfl⟩
  obtain ⟨x, hx⟩ : ∃ u, lenN n1 n2 n3 = u := ⟨_, rfl⟩
  obtain ⟨R, hR⟩ : ∃ R, rpR sy st rs s a b c = R := ⟨_, rfl⟩
  have HR := Lib.hid (show R = if !(u1 && u2 && u3 && u4) then (zeroF, 1) else if !(v1 && v2 && v3 && v4) then (zeroF, 2) else if x then foundF s (findF a b c (n2 - n1)) else (zeroF, 7) by
    rw [← hR, rpR, i1, i2, i3, i4, j1, j2, j3, j4, lenB_eq h'.len h''.len h'''.len, hx, h'.len, h''.len])
  rw [hR]
  have I1 := Lib.hid i1; have I2 := Lib.hid i2; have I3 := Lib.hid i3; have I4 := Lib.hid i4; have J1 := Lib.hid j1; have J2 := Lib.hid j2; have J3 := Lib.hid j3; have J4 := Lib.hid j4; have X := Lib.hid hx
  clear h h' h'' h''' hR i1 i2 i3 i4 j1 j2 j3 j4 hx
  have z0 := Z0.out.cell 0; have z1 := Z0.out.cell 1; have z2 := Z0.out.cell 2; have z3 := Z0.out.cell 3; have z4 := Z0.out.cell 4; have z5 := Z0.out.cell 5
  have f0 := Z0.out.frozen 0; have f1 := Z0.out.frozen 1; have f2 := Z0.out.frozen 2; have f3 := Z0.out.frozen 3; have f4 := Z0.out.frozen 4; have f5 := Z0.out.frozen 5
  simp at z0 z1 z2 z3 z4 z5
  clear z0 z1 z2 z3 z4 z5 f0 f1 f2 f3 f4 f5
  go_enter Try.func9, Try.ntmps9
  go_wp2_with fail
  refine (l05Is_c _ _ _ _ _ _ rs u1 _ (by exact M0.out) (by omega) I1.out).mono ?_
  rintro e w1 ⟨rfl, hb⟩
  have Z1 := Lib.hid (Z0.out.keep hb); have M1 := Lib.hid (M0.out.below hb); have B1 := Lib.hid (below_chain B0.out B0.out.size hb)
  clear hb hw0 Z0 M0 B0
  have r0 := Z1.out.cell 0; have r1 := Z1.out.cell 1; have r2 := Z1.out.cell 2; have r3 := Z1.out.cell 3; have r4 := Z1.out.cell 4; have r5 := Z1.out.cell 5
  have f0 := Z1.out.frozen 0; have f1 := Z1.out.frozen 1; have f2 := Z1.out.frozen 2; have f3 := Z1.out.frozen 3; have f4 := Z1.out.frozen 4; have f5 := Z1.out.frozen 5
  simp at r0 r1 r2 r3 r4 r5
  cases u1
  · go_wp2_with fail
    refine bodyPost_ret (v := .tuple #[.agg #[i64 0, i64 0, i64 0, .slice none 0 0, .slice none 0 0, .slice none 0 0], i64 1]) (by simp [results, Try.results9, go_sem, r0, r1, r2, r3, r4, r5]) rfl ?_
    rw [show R = (zeroF, 1) from HR.out]
    exact FoOut.bad 1 (below_set6 B1.out (by omega))
  go_wp2_with fail
  refine (l03Is_c _ _ _ a u2 _ (by exact Rd.below HA.out B1.out) (by omega) I2.out).mono ?_
  rintro e w' ⟨rfl, rfl⟩
  cases u2
  · go_wp2_with fail
    refine bodyPost_ret (v := .tuple #[.agg #[i64 0, i64 0, i64 0, .slice none 0 0, .slice none 0 0, .slice none 0 0], i64 1]) (by simp [results, Try.results9, go_sem, r0, r1, r2, r3, r4, r5]) rfl ?_
    rw [show R = (zeroF, 1) from HR.out]
    exact FoOut.bad 1 (below_set6 B1.out (by omega))
  go_wp2_with fail
  refine (l03Is_c _ _ _ b u3 _ (by exact Rd.below HB.out B1.out) (by omega) I3.out).mono ?_
  rintro e w' ⟨rfl, rfl⟩
  cases u3
  · go_wp2_with fail
    refine bodyPost_ret (v := .tuple #[.agg #[i64 0, i64 0, i64 0, .slice none 0 0, .slice none 0 0, .slice none 0 0], i64 1]) (by simp [results, Try.results9, go_sem, r0, r1, r2, r3, r4, r5]) rfl ?_
    rw [show R = (zeroF, 1) from HR.out]
    exact FoOut.bad 1 (below_set6 B1.out (by omega))
  go_wp2_with fail
  refine (l03Is_c _ _ _ c u4 _ (by exact Rd.below HC.out B1.out) (by omega) I4.out).mono ?_
  rintro e w' ⟨rfl, rfl⟩
  cases u4
  · go_wp2_with fail
    refine bodyPost_ret (v := .tuple #[.agg #[i64 0, i64 0, i64 0, .slice none 0 0, .slice none 0 0, .slice none 0 0], i64 1]) (by simp [results, Try.results9, go_sem, r0, r1, r2, r3, r4, r5]) rfl ?_
    rw [show R = (zeroF, 1) from HR.out]
    exact FoOut.bad 1 (below_set6 B1.out (by omega))
  have h1p := I1.out
  simp only [machB, Bool.and_eq_true, inB_iff, beq_iff_eq] at h1p
  obtain ⟨⟨⟨hsy, hst⟩, _⟩, _⟩ := h1p
  have c0 := M1.out.c0; have c1' := M1.out.c1
  have LO1 := Lib.hid (fun x hx => (allB_mem (show allB 0 9 a = true by have := I2.out; rw [wordB, Bool.and_eq_true] at this; exact this.2) x hx).1)
  have LO2 := Lib.hid (fun x hx => (allB_mem (show allB 0 9 b = true by have := I3.out; rw [wordB, Bool.and_eq_true] at this; exact this.2) x hx).1)
  have LO3 := Lib.hid (fun x hx => (allB_mem (show allB 0 9 c = true by have := I4.out; rw [wordB, Bool.and_eq_true] at this; exact this.2) x hx).1)
  go_wp2_with fail
  refine (l00In_b _ _ _ v1 J1.out _).mono ?_
  rintro e w' ⟨rfl, rfl⟩
  cases v1
  · go_wp2_with fail
    refine bodyPost_ret (v := .tuple #[.agg #[i64 0, i64 0, i64 0, .slice none 0 0, .slice none 0 0, .slice none 0 0], i64 2]) (by simp [results, Try.results9, go_sem, r0, r1, r2, r3, r4, r5]) rfl ?_
    rw [show R = (zeroF, 2) from HR.out]
    exact FoOut.bad 2 (below_set6 B1.out (by omega))
  go_wp2_with fail
  refine (l03Over_c _ _ _ a _ v2 _ (by exact Rd.below HA.out B1.out) (by omega) LO1.out J2.out).mono ?_
  rintro e w' ⟨rfl, rfl⟩
  cases v2
  · go_wp2_with fail
    refine bodyPost_ret (v := .tuple #[.agg #[i64 0, i64 0, i64 0, .slice none 0 0, .slice none 0 0, .slice none 0 0], i64 2]) (by simp [results, Try.results9, go_sem, r0, r1, r2, r3, r4, r5]) rfl ?_
    rw [show R = (zeroF, 2) from HR.out]
    exact FoOut.bad 2 (below_set6 B1.out (by omega))
  go_wp2_with fail
  refine (l03Over_c _ _ _ b _ v3 _ (by exact Rd.below HB.out B1.out) (by omega) LO2.out J3.out).mono ?_
  rintro e w' ⟨rfl, rfl⟩
  cases v3
  · go_wp2_with fail
    refine bodyPost_ret (v := .tuple #[.agg #[i64 0, i64 0, i64 0, .slice none 0 0, .slice none 0 0, .slice none 0 0], i64 2]) (by simp [results, Try.results9, go_sem, r0, r1, r2, r3, r4, r5]) rfl ?_
    rw [show R = (zeroF, 2) from HR.out]
    exact FoOut.bad 2 (below_set6 B1.out (by omega))
  go_wp2_with fail
  refine (l03Over_c _ _ _ c _ v4 _ (by exact Rd.below HC.out B1.out) (by omega) LO3.out J4.out).mono ?_
  rintro e w' ⟨rfl, rfl⟩
  cases v4
  · go_wp2_with fail
    refine bodyPost_ret (v := .tuple #[.agg #[i64 0, i64 0, i64 0, .slice none 0 0, .slice none 0 0, .slice none 0 0], i64 2]) (by simp [results, Try.results9, go_sem, r0, r1, r2, r3, r4, r5]) rfl ?_
    rw [show R = (zeroF, 2) from HR.out]
    exact FoOut.bad 2 (below_set6 B1.out (by omega))
  go_wp2_with fail
  refine (l27Lengths_c A1 A2 A3 n1 c1 n2 c2 n3 c3 _ (by omega) (by omega) (by omega)).mono ?_
  rw [X.out]
  rintro e w2 ⟨rfl, hq⟩
  have hb := hq.below w1.heap.size
  have Z2 := Lib.hid (Z1.out.keep hb); have B2 := Lib.hid (B1.out.trans (hb.mono B1.out.size))
  clear hq hb r0 r1 r2 r3 r4 r5 f0 f1 f2 f3 f4 f5 c0 c1'
  cases x
  · have r0 := Z2.out.cell 0; have r1 := Z2.out.cell 1; have r2 := Z2.out.cell 2; have r3 := Z2.out.cell 3; have r4 := Z2.out.cell 4; have r5 := Z2.out.cell 5
    have f0 := Z2.out.frozen 0; have f1 := Z2.out.frozen 1; have f2 := Z2.out.frozen 2; have f3 := Z2.out.frozen 3; have f4 := Z2.out.frozen 4; have f5 := Z2.out.frozen 5
    simp at r0 r1 r2 r3 r4 r5
    go_wp2_with fail
    refine bodyPost_ret (v := .tuple #[.agg #[i64 0, i64 0, i64 0, .slice none 0 0, .slice none 0 0, .slice none 0 0], i64 7]) (by simp [results, Try.results9, go_sem, r0, r1, r2, r3, r4, r5]) rfl ?_
    rw [show R = (zeroF, 7) from HR.out]
    exact FoOut.bad 7 (below_set6 B2.out (by omega))
  obtain ⟨q1, q2, q3, q4, q5⟩ := of_decide_eq_true (show decide (0 < n1 ∧ n1 ≤ 40 ∧ n1 + 1 ≤ n2 ∧ n2 ≤ n1 + 8 ∧ (n3 : Int) - n2 = (n2 : Int) - n1) = true from X.out)
  obtain ⟨o, ho⟩ : ∃ o, findF a b c (n2 - n1) = o := ⟨_, rfl⟩
  have HE := Lib.hid (show R = foundF s o by rw [← ho]; exact HR.out)
  have hf := l27Find_c s A1 A2 A3 n1 c1 n2 c2 n3 c3 a b c (n2 - n1) w2 (RdI.below HA.out B2.out) (RdI.below HB.out B2.out) (RdI.below HC.out B2.out) ⟨q1, q2⟩ (by omega) (by omega) (by omega) hnc1 hnc2
  rw [ho] at hf
  have HFC := Lib.hid hf
  clear hf ho HR q5
  go_wp2_with fail
  refine HFC.out.mono ?_
  rintro e w3 ⟨q0', q1', q2', E0, m0, d0, its0, E1, m1, d1, its1, E2, m2, d2, rfl, hso, hb3⟩
  have Z3 := Lib.hid (Z2.out.keep hb3); have BB := Lib.hid hb3
  have hz3 := hb3.size
  have hlt3 := Z3.out.lt
  have hlt2 := Z2.out.lt
  clear HFC
  obtain ⟨w4, hw4⟩ : ∃ w4, w3.alloc (.cells #[.int .i64 q0', .int .i64 q1', .int .i64 q2', .slice E0 m0 d0, .slice E1 m1 d1, .slice E2 m2 d2] 29) = w4 := ⟨_, rfl⟩
  have R2 : Blk w4 (w.heap.size + 1) 29 #[i64 0, i64 0, i64 0, .slice none 0 0, .slice none 0 0, .slice none 0 0] := by rw [← hw4]; exact Z3.out.alloc _
  have M2 : Blk w4 w3.heap.size 29 #[i64 q0', i64 q1', i64 q2', .slice E0 m0 d0, .slice E1 m1 d1, .slice E2 m2 d2] := by rw [← hw4]; exact Blk.new w3 _ _
  have E34 := Lib.hid (show Below w3.heap.size w3 w4 by rw [← hw4]; exact below_size.alloc (Nat.le_refl _) _)
  have r0 := R2.cell 0; have r1 := R2.cell 1; have r2 := R2.cell 2; have r3 := R2.cell 3; have r4 := R2.cell 4; have r5 := R2.cell 5
  have k0 := R2.frozen 0; have k1 := R2.frozen 1; have k2 := R2.frozen 2; have k3 := R2.frozen 3; have k4 := R2.frozen 4; have k5 := R2.frozen 5
  have m0' := M2.cell 0; have m1' := M2.cell 1; have m2' := M2.cell 2; have m3' := M2.cell 3; have m4' := M2.cell 4; have m5' := M2.cell 5
  simp at r0 r1 r2 r3 r4 r5 m0' m1' m2' m3' m4' m5'
  clear R2 M2 hb3 hlt3 hlt2
  cases o with
  | none =>
    clear hso
    simp only [Option.isSome_none]
    go_wp2_with fail
    refine bodyPost_ret (v := .tuple #[.agg #[i64 0, i64 0, i64 0, .slice none 0 0, .slice none 0 0, .slice none 0 0], i64 3]) (by simp [results, Try.results9, go_sem, r0, r1, r2, r3, r4, r5]) rfl ?_
    rw [show R = (zeroF, 3) from HE.out]
    exact FoOut.bad 3 (below_set6 (below_chain (B2.out.trans (BB.out.mono B2.out.size)) (by have := B2.out.size; omega) E34.out) (by omega))
  | some F =>
    obtain ⟨⟨e0, e1, e2⟩, hfo⟩ := hso F rfl
    have HFO := Lib.hid hfo
    have E0' := Lib.hid e0; have E1' := Lib.hid e1; have E2' := Lib.hid e2
    clear e0 e1 e2 hfo hso
    simp only [Option.isSome_some]
    go_wp2_with fail
    refine bodyPost_ret (v := .tuple #[.agg #[i64 q0', i64 q1', i64 q2', .slice E0 m0 d0, .slice E1 m1 d1, .slice E2 m2 d2], i64 0]) (by simp [results, Try.results9, go_sem, r0, r1, r2, r3, r4, r5]) rfl ?_
    rw [HE.out, show q0' = s from E0'.out, E1'.out, E2'.out]
    exact FoOut.good3 HFO.out E34.out B2.out BB.out (by have := Z2.out.lt; omega) (by omega)
theorem sRepeatsIn_c (sy st : Int) (A : Option Addr) (n cp : Nat) (rs : List Rule3) (s : Int) (A1 : Option Addr) (n1 : Nat) (a : List Int) (A2 : Option Addr) (n2 : Nat) (b : List Int) (A3 : Option Addr) (n3 c3 : Nat) (c : List Int) (w : World)
    (h : RdS w [sgX enc3 3 A n rs]) (h' : RdI w A1 n1 a) (h'' : RdI w A2 n2 b) (h''' : RdI w A3 n3 c) (hn : n ≤ 2000000) (hn' : n1 ≤ 2000000) (hn'' : n2 ≤ 2000000) (hn''' : n3 ≤ 2000000) :
    Calls Try.prog 9 #[.agg #[.int .i64 sy, .int .i64 st, .slice A n cp], .int .i64 s, .slice A1 n1 n1, .slice A2 n2 n2, .slice A3 n3 c3] w (FoOut2 (rpR sy st rs s a b c) w) :=
  (sRepeatsIn_f sy st A n cp rs s A1 n1 n1 a A2 n2 n2 b A3 n3 c3 c w h h' h'' h''' hn hn' hn'' hn''' (Nat.le_refl _) (Nat.le_refl _)).mono fun _ _ h => h.two
end Go.Proofs.Ytmmgejnhfpfmnaa
