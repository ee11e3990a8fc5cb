/-
  Contracts of chapter 27: GrowthOf (the reference's).
-/
import Derived.Test.YtmmgejnhfpfmnaaNfM
import Derived.Test.YtmmgejnhfpfmnaaNfG
namespace Go.Proofs.Ytmmgejnhfpfmnaa
open Go.RowKit

/-- the growth of two normal forms -/
def grT (sy st s hd s' hd' : Int) (T T' : NF) : List Int × Int :=
  if formB sy st s hd T.a T.ws T.rs T.os && formB sy st s' hd' T'.a T'.ws T'.rs T'.os then
    (if (grwL (shapeB s hd T.a T.ws T.rs s' hd' T'.a T'.ws T'.rs) T.os T'.os).2 then ((grwL (shapeB s hd T.a T.ws T.rs s' hd' T'.a T'.ws T'.rs) T.os T'.os).1, 0) else ([], 3))
  else ([], 5)
/-- what GrowthOf answers -/
def grR (sy st : Int) (rs : List Rule3) (s hd a : Int) (ws rps : List (List Int)) (os : List Int) (s' hd' a' : Int) (ws' rps' : List (List Int)) (os' : List Int) : List Int × Int :=
  if vformB sy st rs s hd a ws rps os && formB sy st s' hd' a' ws' rps' os' then grT sy st s hd s' hd' (nfT hd a ws rps os) (nfT hd' a' ws' rps' os') else ([], 1)
def GgOut (R : List Int × Int) (w : World) (e : Ending) (w' : World) : Prop :=
  ∃ A n c, e = .returned (.tuple #[.slice A n c, .int .i64 R.2]) ∧ Wr w' w.heap.size w'.heap.size A n (R.1.map i64) ∧ n ≤ 1000000 ∧ Below w.heap.size w w'
theorem GgOut.bad {w w' : World} (k : Int) (h : Below w.heap.size w w') : GgOut ([], k) w (.returned (.tuple #[.slice none 0 0, .int .i64 k])) w' := ⟨none, 0, 0, rfl, Wr.nil, by omega, h⟩
set_option maxHeartbeats 8000000 in
set_option maxRecDepth 100000 in
theorem sGrowthOf0_c (sy st : Int) (A : Option Addr) (n cp : Nat) (rs : List Rule3) (s hd a : Int) (A0 : Option Addr) (n0 c0 : Nat) (its0 : List It) (A1 : Option Addr) (n1 c1 : Nat) (its1 : List It) (A2 : Option Addr) (n2 c2 : Nat) (os : List Int) (s' hd' a' : Int) (B0 : Option Addr) (m0 d0 : Nat) (js0 : List It) (B1 : Option Addr) (m1 d1 : Nat) (js1 : List It) (B2 : Option Addr) (m2 d2 : Nat) (os' : List Int) (w : World)
    (h : RdS w [sgX enc3 3 A n rs]) (h' : RdS w (sgForm A0 n0 its0 A1 n1 its1 A2 n2 os)) (h'' : RdS w (sgForm B0 m0 js0 B1 m1 js1 B2 m2 os')) (hn : n ≤ 1000000000) (hn' : n0 ≤ 1000000000) (hna : n1 ≤ 1000000000) (hnb : n2 ≤ 1000000000) (hm' : m0 ≤ 1000000000) (hma : m1 ≤ 1000000000) (hmb : m2 ≤ 1000000000) (hi0 : ∀ t ∈ its0, t.n ≤ 1000000000) (hi1 : ∀ t ∈ its1, t.n ≤ 1000000000) (hj0 : ∀ t ∈ js0, t.n ≤ 1000000000) (hj1 : ∀ t ∈ js1, t.n ≤ 1000000000) :
    Calls Try.prog 38 #[.agg #[.int .i64 sy, .int .i64 st, .slice A n cp], .agg #[.int .i64 s, .int .i64 hd, .int .i64 a, .slice A0 n0 c0, .slice A1 n1 c1, .slice A2 n2 c2], .agg #[.int .i64 s', .int .i64 hd', .int .i64 a', .slice B0 m0 d0, .slice B1 m1 d1, .slice B2 m2 d2]] w (GgOut (grR sy st rs s hd a (its0.map It.xs) (its1.map It.xs) os s' hd' a' (js0.map It.xs) (js1.map It.xs) os') w) := by
  have H := Lib.hid (show Rd3 w A n rs from h.head); have H' := Lib.hid h'; have H'' := Lib.hid h''
  have HL0 := Lib.hid (RdII.len h'.left.left); have HL1 := Lib.hid (RdII.len h'.left.right); have HL2 := Lib.hid (show os.length = n2 from RdI.len (show RdI w A2 n2 os from h'.right.head))
  have HK0 := Lib.hid (RdII.len h''.left.left); have HK1 := Lib.hid (RdII.len h''.left.right); have HK2 := Lib.hid (show os'.length = m2 from RdI.len (show RdI w B2 m2 os' from h''.right.head))
  clear h h' h''
  obtain ⟨w0, hw0⟩ : ∃ w0, ((w.alloc (.cells #[i64 sy, i64 st, .slice A n cp] 34)).alloc (.cells #[i64 s, i64 hd, i64 a, .slice A0 n0 c0, .slice A1 n1 c1, .slice A2 n2 c2] 29)).alloc (.cells #[i64 s', i64 hd', i64 a', .slice B0 m0 d0, .slice B1 m1 d1, .slice B2 m2 d2] 29) = w0 := ⟨_, rfl⟩
  obtain ⟨b0, b1, b2⟩ := boxes3 w #[i64 sy, i64 st, .slice A n cp] #[i64 s, i64 hd, i64 a, .slice A0 n0 c0, .slice A1 n1 c1, .slice A2 n2 c2] #[i64 s', i64 hd', i64 a', .slice B0 m0 d0, .slice B1 m1 d1, .slice B2 m2 d2] 34 29 29
  rw [hw0] at b0 b1 b2
  have BB := Lib.hid (show Below w.heap.size w w0 by rw [← hw0]; exact ((below_size.alloc (Nat.le_refl _) _).alloc (by simp) _).alloc (by simp; omega) _)
  have F0 := Lib.hid (show FormP w0 (w.heap.size + 1) s hd a A0 n0 c0 its0 A1 n1 c1 its1 A2 n2 c2 os by
    have hh := H'.out.below BB.out
    exact ⟨b1.cell 0, b1.cell 1, b1.cell 2, b1.cell 3, b1.cell 4, b1.cell 5, hh.left.left, hh.left.right, hh.right.head⟩)
  have G0 := Lib.hid (show FormP w0 (w.heap.size + 2) s' hd' a' B0 m0 d0 js0 B1 m1 d1 js1 B2 m2 d2 os' by
    have hh := H''.out.below BB.out
    exact ⟨b2.cell 0, b2.cell 1, b2.cell 2, b2.cell 3, b2.cell 4, b2.cell 5, hh.left.left, hh.left.right, hh.right.head⟩)
  have M0 := Lib.hid (show MachP w0 w.heap.size sy st A n cp rs from ⟨b0.cell 0, b0.cell 1, b0.cell 2, Rd.below H.out BB.out⟩)
  obtain ⟨q, hq⟩ : ∃ q, machB sy st rs = q := ⟨_, rfl⟩
  obtain ⟨r, hr⟩ : ∃ r, formB sy st s hd a (its0.map It.xs) (its1.map It.xs) os = r := ⟨_, rfl⟩
  obtain ⟨r', hr'⟩ : ∃ r, formB sy st s' hd' a' (js0.map It.xs) (js1.map It.xs) os' = r := ⟨_, rfl⟩
  obtain ⟨R, hR⟩ : ∃ R, grR sy st rs s hd a (its0.map It.xs) (its1.map It.xs) os s' hd' a' (js0.map It.xs) (js1.map It.xs) os' = R := ⟨_, rfl⟩
  rw [hR]
  have HR := Lib.hid (show (if (q && r) && r' then grT sy st s hd s' hd' (nfT hd a (its0.map It.xs) (its1.map It.xs) os) (nfT hd' a' (js0.map It.xs) (js1.map It.xs) os') else ([], 1)) = R by rw [← hR, grR, vformB, hq, hr, hr'])
  have HQ := Lib.hid hq; have HI0 := Lib.hid hi0; have HI1 := Lib.hid hi1; have HJ0 := Lib.hid hj0; have HJ1 := Lib.hid hj1; have HRr := Lib.hid hr; have HRr' := Lib.hid hr'
  clear hr hr' hi0 hi1 hj0 hj1 hR b0 b1 b2
  simp only [i64] at hw0
  go_enter Try.func38, Try.ntmps38
  go_wp2_with fail
  clear hw0
  refine (l05Is_c w.heap.size sy st A n cp rs q _ (by exact M0.out) hn hq).mono ?_
  rintro e w1 ⟨rfl, hb⟩
  have T1 := Lib.hid (below_chain BB.out BB.out.size hb)
  have M1 := Lib.hid (M0.out.below hb); have F1 := Lib.hid (F0.out.below hb); have G1 := Lib.hid (G0.out.below hb)
  clear hb hq M0 F0 G0
  cases q
  · go_wp2_with fail
    go_ret2
    rw [show R = ([], 1) by rw [← HR.out]; rfl]
    exact GgOut.bad 1 T1.out
  have hbd := machB_bd HQ.out
  go_wp2_with fail
  refine (l27Is_c _ sy st A n cp rs _ s hd a A0 n0 c0 its0 A1 n1 c1 its1 A2 n2 c2 os r _ (by exact M1.out) (by exact F1.out) hbd.1 hbd.2.1 hn' hna hnb HI0.out HI1.out HRr.out).mono ?_
  rintro e w2 ⟨rfl, hq⟩
  have hb := hq.below w1.heap.size
  have T2 := Lib.hid (below_chain T1.out T1.out.size hb)
  have M2 := Lib.hid (M1.out.below hb); have F2 := Lib.hid (F1.out.below hb); have G2 := Lib.hid (G1.out.below hb)
  clear hq hb M1 F1 G1
  cases r
  · go_wp2_with fail
    go_ret2
    rw [show R = ([], 1) by rw [← HR.out]; rfl]
    exact GgOut.bad 1 T2.out
  go_wp2_with fail
  refine (l27Is_c _ sy st A n cp rs _ s' hd' a' B0 m0 d0 js0 B1 m1 d1 js1 B2 m2 d2 os' r' _ (by exact M2.out) (by exact G2.out) hbd.1 hbd.2.1 hm' hma hmb HJ0.out HJ1.out HRr'.out).mono ?_
  rintro e w3 ⟨rfl, hq⟩
  have hb := hq.below w2.heap.size
  have T3 := Lib.hid (below_chain T2.out T2.out.size hb)
  have M3 := Lib.hid (M2.out.below hb); have F3 := Lib.hid (F2.out.below hb); have G3 := Lib.hid (G2.out.below hb)
  clear hq hb M2 F2 G2
  cases r'
  · go_wp2_with fail
    go_ret2
    rw [show R = ([], 1) by rw [← HR.out]; rfl]
    exact GgOut.bad 1 T3.out
  have FO := formB_ok HRr.out; have FO' := formB_ok HRr'.out
  have hrl : (its1.map It.xs).length = n1 := by rw [List.length_map]; exact HL1.out
  have hrl' : (js1.map It.xs).length = m1 := by rw [List.length_map]; exact HK1.out
  have hr3 : 1 ≤ n1 ∧ n1 ≤ 3 := by have := FO.r; omega
  have hr3' : 1 ≤ m1 ∧ m1 ≤ 3 := by have := FO'.r; omega
  have hn0 : n0 = n1 + 1 := by have := FO.nw; rw [List.length_map, HL0.out, hrl] at this; exact this
  have hn2 : n2 = n1 := by have := FO.no; rw [HL2.out, hrl] at this; exact this
  have hm0 : m0 = m1 + 1 := by have := FO'.nw; rw [List.length_map, HK0.out, hrl'] at this; exact this
  have hm2 : m2 = m1 := by have := FO'.no; rw [HK2.out, hrl'] at this; exact this
  have OK := Lib.hid (FO.okN hrl); have OK' := Lib.hid (FO'.okN hrl')
  have ON := (FO.okN hrl).norm (hd := hd) hr3.2; have ON' := (FO'.okN hrl').norm (hd := hd') hr3'.2
  obtain ⟨T9, hT9⟩ : ∃ T9, normN hd n1 ⟨a, its0.map It.xs, its1.map It.xs, os⟩ = T9 := ⟨_, rfl⟩
  obtain ⟨U9, hU9⟩ : ∃ T9, normN hd' m1 ⟨a', js0.map It.xs, js1.map It.xs, os'⟩ = T9 := ⟨_, rfl⟩
  obtain ⟨p, hp⟩ : ∃ p, formB sy st s hd T9.a T9.ws T9.rs T9.os = p := ⟨_, rfl⟩
  obtain ⟨p', hp'⟩ : ∃ p, formB sy st s' hd' U9.a U9.ws U9.rs U9.os = p := ⟨_, rfl⟩
  rw [hT9] at ON; rw [hU9] at ON'
  have HRR := Lib.hid (show (if p && p' then (if (grwL (shapeB s hd T9.a T9.ws T9.rs s' hd' U9.a U9.ws U9.rs) T9.os U9.os).2 then ((grwL (shapeB s hd T9.a T9.ws T9.rs s' hd' U9.a U9.ws U9.rs) T9.os U9.os).1, 0) else ([], 3)) else ([], 5)) = R by
    rw [← HR.out, nfT, nfT, hrl, hrl', hT9, hU9, grT, hp, hp']; rfl)
  have HP := Lib.hid hp; have HP' := Lib.hid hp'; have HT9 := Lib.hid hT9; have HU9 := Lib.hid hU9; have HN0 := Lib.hid hn0; have HN2 := Lib.hid hn2; have HM0 := Lib.hid hm0; have HM2 := Lib.hid hm2; have HON := Lib.hid ON; have HON' := Lib.hid ON'
  clear FO FO' hrl hrl' hp hp' hT9 hU9 hn0 hn2 hm0 hm2 ON ON' HR
  go_wp2_with fail
  refine (l27Normal_c _ sy st A n cp rs _ s hd a A0 n0 c0 its0 A1 n1 c1 its1 A2 n2 c2 os p _ (by exact M3.out) (by exact F3.out) hbd.1 hbd.2.1 OK.out hr3 HN0.out HN2.out (by rw [HT9.out]; exact HP.out)).mono ?_
  rw [HT9.out]
  rintro e w4 ⟨C0, e0, ks0, C1, e1, ks1, C2, e2, rfl, g0, g1, _, _, hS, hb4⟩
  have X4 := Lib.hid (And.intro g0 g1); have S4 := Lib.hid hS
  have T4 := Lib.hid (below_chain T3.out T3.out.size hb4)
  have M4 := Lib.hid (M3.out.below hb4); have G4 := Lib.hid (G3.out.below hb4)
  clear g0 g1 hS hb4 M3 F3 G3
  obtain ⟨w5, hw5⟩ : ∃ w5, w4.alloc (.cells #[i64 s, i64 hd, i64 T9.a, .slice C0 n0 e0, .slice C1 n1 e1, .slice C2 n2 e2] 29) = w5 := ⟨_, rfl⟩
  have B5 := Lib.hid (show Below w4.heap.size w4 w5 by rw [← hw5]; exact below_size.alloc (Nat.le_refl _) _)
  have P5 := Lib.hid (show FormP w5 w4.heap.size s hd T9.a C0 n0 e0 ks0 C1 n1 e1 ks1 C2 n2 e2 T9.os from by
    have b := Blk.new w4 29 #[i64 s, i64 hd, i64 T9.a, .slice C0 n0 e0, .slice C1 n1 e1, .slice C2 n2 e2]
    rw [hw5] at b
    have r := (S4.out.below B5.out).rd
    exact ⟨b.cell 0, b.cell 1, b.cell 2, b.cell 3, b.cell 4, b.cell 5, r.left.left, r.left.right, r.right.head⟩)
  have T5 := Lib.hid (below_chain T4.out T4.out.size B5.out)
  have M5 := Lib.hid (M4.out.below B5.out); have G5 := Lib.hid (G4.out.below B5.out)
  simp only [i64] at hw5
  clear M4 G4 S4
  go_wp2_with fail
  try clear hw5
  refine (l27Normal_c _ sy st A n cp rs _ s' hd' a' B0 m0 d0 js0 B1 m1 d1 js1 B2 m2 d2 os' p' _ (by exact M5.out) (by exact G5.out) hbd.1 hbd.2.1 OK'.out hr3' HM0.out HM2.out (by rw [HU9.out]; exact HP'.out)).mono ?_
  rw [HU9.out]
  rintro e w6 ⟨D0, f0, ls0, D1, f1, ls1, D2, f2, rfl, g0, g1, _, _, hS, hb6⟩
  have X6 := Lib.hid (And.intro g0 g1); have S6 := Lib.hid hS
  have T6 := Lib.hid (below_chain T5.out T5.out.size hb6)
  have P6 := Lib.hid (P5.out.below hb6)
  clear g0 g1 hS hb6 P5
  obtain ⟨w7, hw7⟩ : ∃ w7, w6.alloc (.cells #[i64 s', i64 hd', i64 U9.a, .slice D0 m0 f0, .slice D1 m1 f1, .slice D2 m2 f2] 29) = w7 := ⟨_, rfl⟩
  have B7 := Lib.hid (show Below w6.heap.size w6 w7 by rw [← hw7]; exact below_size.alloc (Nat.le_refl _) _)
  have Q7 := Lib.hid (show FormP w7 w6.heap.size s' hd' U9.a D0 m0 f0 ls0 D1 m1 f1 ls1 D2 m2 f2 U9.os from by
    have b := Blk.new w6 29 #[i64 s', i64 hd', i64 U9.a, .slice D0 m0 f0, .slice D1 m1 f1, .slice D2 m2 f2]
    rw [hw7] at b
    have r := (S6.out.below B7.out).rd
    exact ⟨b.cell 0, b.cell 1, b.cell 2, b.cell 3, b.cell 4, b.cell 5, r.left.left, r.left.right, r.right.head⟩)
  have T7 := Lib.hid (below_chain T6.out T6.out.size B7.out)
  have P7 := Lib.hid (P6.out.below B7.out)
  simp only [i64] at hw7
  clear S6 P6
  cases p
  · go_wp2_with fail
    go_ret2
    rw [show R = ([], 5) by rw [← HRR.out]; rfl]
    exact GgOut.bad 5 T7.out
  cases p'
  · go_wp2_with fail
    go_ret2
    rw [show R = ([], 5) by rw [← HRR.out]; rfl]
    exact GgOut.bad 5 T7.out
  go_wp2_with fail
  try clear hw7
  refine (l27Growth_c w4.heap.size w6.heap.size s hd T9.a C0 n0 e0 ks0 C1 n1 e1 ks1 C2 n2 e2 T9.os s' hd' U9.a D0 m0 f0 ls0 D1 m1 f1 ls1 D2 m2 f2 U9.os _ (by exact P7.out) (by exact Q7.out) (by have := HN0.out; omega) (by have := HM0.out; omega) (by omega) (by omega) (by have := HN2.out; omega) (fun he => by
      have h1 := congrArg List.length (of_decide_eq_true he)
      rw [List.length_map, List.length_map, RdII.len P7.out.r1, RdII.len Q7.out.r1] at h1
      rw [HN2.out, HM2.out, h1]) (fun t ht => by have := jsB0 HON.out X4.out.1 P7.out.r0 t ht; omega) (fun t ht => by have := jsB1 HON.out X4.out.2 P7.out.r1 t ht; omega) (fun x hx => by have := HON.out.o x hx; omega) (fun x hx => by have := HON'.out.o x hx; omega)).mono ?_
  rw [X4.out.1, X4.out.2, X6.out.1, X6.out.2]
  obtain ⟨V, hV⟩ : ∃ V, grwL (shapeB s hd T9.a T9.ws T9.rs s' hd' U9.a U9.ws U9.rs) T9.os U9.os = V := ⟨_, rfl⟩
  rw [hV] at HRR ⊢
  obtain ⟨vl, vb⟩ := V
  rintro e w8 ⟨Z, zn, zc, rfl, hzn, hZ, hb8⟩
  have W8 := Lib.hid hZ
  have T8 := Lib.hid (below_chain T7.out T7.out.size hb8)
  have hz8 := T7.out.size
  clear hZ hb8 hV
  cases vb
  · go_wp2_with fail
    go_ret2
    rw [show R = ([], 3) by rw [← HRR.out]; rfl]
    exact GgOut.bad 3 T8.out
  · go_wp2_with fail
    go_ret2
    rw [show R = (vl, 0) by rw [← HRR.out]; rfl]
    exact ⟨Z, zn, zc, rfl, W8.out.wider hz8 (Nat.le_refl _), by omega, T8.out⟩

theorem diffL_mem : ∀ {a b : List Int} {d : Int}, d ∈ diffL a b → ∃ x ∈ a, ∃ y ∈ b, d = y - x
  | [], _, d, h => by cases h
  | x :: a, [], d, h => by cases h
  | x :: a, y :: b, d, h => by
    rcases List.mem_cons.1 h with rfl | h
    · exact ⟨x, by simp, y, by simp, rfl⟩
    · obtain ⟨x', hx, y', hy, e⟩ := diffL_mem h
      exact ⟨x', by simp [hx], y', by simp [hy], e⟩
theorem allB_posL : ∀ {l : List Int}, (∀ d ∈ l, d ≤ 2000) → allB 0 2000 l = posL l
  | [], _ => rfl
  | d :: l, h => by
    have ih := allB_posL (l := l) fun e he => h e (by simp [he])
    have hd := h d (by simp)
    rw [allB, ih]
    unfold posL
    rw [List.all_cons]
    congr 1
    by_cases h0 : 0 ≤ d
    · rw [inB_of h0 hd, decide_eq_true h0]
    · rw [inB_not (by omega), decide_eq_false h0]
set_option maxHeartbeats 8000000 in
set_option maxRecDepth 100000 in
theorem growth_c (sy st : Int) (A : Option Addr) (n cp : Nat) (s : Int) (h h' : Nat) (a : Int) (A0 : Option Addr) (n0 c0 : Nat) (its0 : List It) (A1 : Option Addr) (n1 c1 : Nat) (its1 : List It) (A2 : Option Addr) (n2 c2 : Nat) (os : List Int) (s' a' : Int) (B0 : Option Addr) (m0 d0 : Nat) (js0 : List It) (B1 : Option Addr) (m1 d1 : Nat) (js1 : List It) (B2 : Option Addr) (m2 d2 : Nat) (os' : List Int) (w : World)
    (hR : RdS w (sgForm A0 n0 its0 A1 n1 its1 A2 n2 os)) (hR' : RdS w (sgForm B0 m0 js0 B1 m1 js1 B2 m2 os')) (hsy : 2 ≤ sy ∧ sy ≤ 6) (hst : 1 ≤ st ∧ st ≤ 1000)
    (ok : OkN n1 0 ⟨a, its0.map It.xs, its1.map It.xs, os⟩) (ok' : OkN m1 0 ⟨a', js0.map It.xs, js1.map It.xs, os'⟩) (hn1 : 1 ≤ n1 ∧ n1 ≤ 3) (hm1 : 1 ≤ m1 ∧ m1 ≤ 3) (hn0 : n0 = n1 + 1) (hn2 : n2 = n1) (hm0 : m0 = m1 + 1) (hm2 : m2 = m1) (hh : h ≤ n1) (hh' : h' ≤ m1) :
    Calls Try.prog 77 #[.agg #[.int .i64 sy, .int .i64 st, .slice A n cp], .agg #[.int .i64 s, .int .i64 h, .int .i64 a, .slice A0 n0 c0, .slice A1 n1 c1, .slice A2 n2 c2], .agg #[.int .i64 s', .int .i64 h', .int .i64 a', .slice B0 m0 d0, .slice B1 m1 d1, .slice B2 m2 d2]] w
      (GgOut (grT sy st s h s' h' (normN h n1 ⟨a, its0.map It.xs, its1.map It.xs, os⟩) (normN h' m1 ⟨a', js0.map It.xs, js1.map It.xs, os'⟩)) w) := by
  obtain ⟨w0, hw0⟩ : ∃ w0, ((w.alloc (.cells #[i64 sy, i64 st, .slice A n cp] 34)).alloc (.cells #[i64 s, i64 h, i64 a, .slice A0 n0 c0, .slice A1 n1 c1, .slice A2 n2 c2] 29)).alloc (.cells #[i64 s', i64 h', i64 a', .slice B0 m0 d0, .slice B1 m1 d1, .slice B2 m2 d2] 29) = w0 := ⟨_, rfl⟩
  obtain ⟨b0, b1, b2⟩ := boxes3 w #[i64 sy, i64 st, .slice A n cp] #[i64 s, i64 h, i64 a, .slice A0 n0 c0, .slice A1 n1 c1, .slice A2 n2 c2] #[i64 s', i64 h', i64 a', .slice B0 m0 d0, .slice B1 m1 d1, .slice B2 m2 d2] 34 29 29
  rw [hw0] at b0 b1 b2
  have BB := Lib.hid (show Below w.heap.size w w0 by rw [← hw0]; exact ((below_size.alloc (Nat.le_refl _) _).alloc (by simp) _).alloc (by simp; omega) _)
  have HF := Lib.hid (hR.below BB.out); have HG := Lib.hid (hR'.below BB.out)
  have M0 := Lib.hid b0; have G0 := Lib.hid b2
  obtain ⟨T9, hT9⟩ : ∃ T9, normN h n1 ⟨a, its0.map It.xs, its1.map It.xs, os⟩ = T9 := ⟨_, rfl⟩
  obtain ⟨U9, hU9⟩ : ∃ T9, normN h' m1 ⟨a', js0.map It.xs, js1.map It.xs, os'⟩ = T9 := ⟨_, rfl⟩
  rw [hT9, hU9]
  obtain ⟨R, hRR⟩ : ∃ R, grT sy st s h s' h' T9 U9 = R := ⟨_, rfl⟩
  rw [hRR]
  have HT9 := Lib.hid hT9; have HU9 := Lib.hid hU9; have HR := Lib.hid hRR; have OK := Lib.hid ok; have OK' := Lib.hid ok'
  have HN0 := Lib.hid hn0; have HN2 := Lib.hid hn2; have HM0 := Lib.hid hm0; have HM2 := Lib.hid hm2
  have k0 := b1.cell 0; have k1 := b1.cell 1; have k2 := b1.cell 2; have k3 := b1.cell 3; have k4 := b1.cell 4; have k5 := b1.cell 5
  have q0 := b2.cell 0; have q1 := b2.cell 1; have q2 := b2.cell 2; have q3 := b2.cell 3; have q4 := b2.cell 4; have q5 := b2.cell 5
  simp at k0 k1 k2 k3 k4 k5 q0 q1 q2 q3 q4 q5
  have x0 := Ext.cell k0; have x1 := Ext.cell k1; have x2 := Ext.cell k2; have x3 := Ext.cell k3; have x4 := Ext.cell k4; have x5 := Ext.cell k5
  have y0 := Ext.cell q0; have y1 := Ext.cell q1; have y2 := Ext.cell q2; have y3 := Ext.cell q3; have y4 := Ext.cell q4; have y5 := Ext.cell q5
  clear hR hR' ok ok' hT9 hU9 hRR b0 b1 b2 hn0 hn2 hm0 hm2
  simp only [i64] at hw0
  go_enter Try.func77, Try.ntmps77
  go_wp2_with fail
  try clear hw0
  refine Mix.wp_region_mix [3, 1, 3, 1, 0, 0] (fun w' => ∃ x : Ext w0, w' = x.w) (by kernel_rfl) (by kernel_rfl) (InExt.drew _) ?_
  repeat (first | (refine Mix.wpMix_read (by rfl) ?_; go_big_quiet_step (fail); refine wpQuiet_nil ?_) | (refine Mix.wpMix_pure (by rfl) ?_; go_big_quiet_step (fail); refine wpQuiet_nil ?_))
  refine Mix.wpMix_chg (by rfl) (fun K hK => ?_)
  go_wp2_with fail
  refine (normalized_c s h a A0 n0 c0 its0 A1 n1 c1 its1 A2 n2 c2 os _ (by exact HF.out.drew) OK.out hn1 HN0.out HN2.out hh).mono ?_
  rw [HT9.out]
  rintro e w1 ⟨g1, C0, e0, C1, e1, C2, e2, rfl, ⟨ks0, ks1, z0, z1, hF⟩, ok9⟩
  have NF1 := Lib.hid hF; have X1 := Lib.hid (And.intro z0 z1); have ON := Lib.hid ok9
  have E1 := Lib.hid (show Below w0.heap.size w0 w1 from below_of_drew hF.below)
  clear hF z0 z1 ok9
  go_wp2_with fail
  refine hK _ _ ⟨⟨_, E1.out⟩, rfl⟩ ?_
  clear hK K
  repeat (first | (refine Mix.wpMix_read (by rfl) ?_; go_big_quiet_step (fail); refine wpQuiet_nil ?_) | (refine Mix.wpMix_pure (by rfl) ?_; go_big_quiet_step (fail); refine wpQuiet_nil ?_))
  refine Mix.wpMix_chg (by rfl) (fun K hK => ?_)
  go_wp2_with fail
  refine (normalized_c s' h' a' B0 m0 d0 js0 B1 m1 d1 js1 B2 m2 d2 os' _ (by exact HG.out.below E1.out) OK'.out hm1 HM0.out HM2.out hh').mono ?_
  rw [HU9.out]
  rintro e w2 ⟨g2, D0, f0, D1, f1, D2, f2, rfl, ⟨ls0, ls1, z0, z1, hF⟩, ok9⟩
  have NF2 := Lib.hid hF; have X2 := Lib.hid (And.intro z0 z1); have ON' := Lib.hid ok9
  have E2 := Lib.hid (below_chain E1.out E1.out.size hF.below)
  have E12 := Lib.hid (show Below w1.heap.size w1 w2 from hF.below)
  clear hF z0 z1 ok9
  go_wp2_with fail
  refine hK _ _ ⟨⟨_, E2.out⟩, rfl⟩ ?_
  clear hK K
  repeat (first | (refine Mix.wpMix_read (by rfl) ?_; go_big_quiet_step (fail); refine wpQuiet_nil ?_) | (refine Mix.wpMix_pure (by rfl) ?_; go_big_quiet_step (fail); refine wpQuiet_nil ?_))
  (refine Mix.wpMix_nil ?_; try simp only [Exit.then])
  clear x0 x1 x2 x3 x4 x5 y0 y1 y2 y3 y4 y5 k0 k1 k2 k3 k4 k5 q0 q1 q2 q3 q4 q5
  have P1 := Lib.hid (NF1.out.form.below E12.out); have Q1 := Lib.hid NF2.out.form
  have M2 := Lib.hid (M0.out.keep E2.out)
  have T2 := Lib.hid (below_chain BB.out BB.out.size E2.out)
  clear NF1 NF2 M0 G0
  obtain ⟨p, hp⟩ : ∃ p, formB sy st s h T9.a T9.ws T9.rs T9.os = p := ⟨_, rfl⟩
  obtain ⟨p', hp'⟩ : ∃ p, formB sy st s' h' U9.a U9.ws U9.rs U9.os = p := ⟨_, rfl⟩
  have HRR := Lib.hid (show (if p && p' then (if (grwL (shapeB s h T9.a T9.ws T9.rs s' h' U9.a U9.ws U9.rs) T9.os U9.os).2 then ((grwL (shapeB s h T9.a T9.ws T9.rs s' h' U9.a U9.ws U9.rs) T9.os U9.os).1, 0) else ([], 3)) else ([], 5)) = R by
    rw [← HR.out, grT, hp, hp'])
  have HP := Lib.hid hp; have HP' := Lib.hid hp'
  clear hp hp' HR
  have k0 := P1.out.d0; have k1 := P1.out.d1; have k2 := P1.out.d2; have k3 := P1.out.d3; have k4 := P1.out.d4; have k5 := P1.out.d5
  have q0 := Q1.out.d0; have q1 := Q1.out.d1; have q2 := Q1.out.d2; have q3 := Q1.out.d3; have q4 := Q1.out.d4; have q5 := Q1.out.d5
  have j0 := M2.out.cell 0; have j1 := M2.out.cell 1; have j2 := M2.out.cell 2
  simp at j0 j1 j2
  have x0 := Ext.cell k0; have x1 := Ext.cell k1; have x2 := Ext.cell k2; have x3 := Ext.cell k3; have x4 := Ext.cell k4; have x5 := Ext.cell k5
  have y0 := Ext.cell q0; have y1 := Ext.cell q1; have y2 := Ext.cell q2; have y3 := Ext.cell q3; have y4 := Ext.cell q4; have y5 := Ext.cell q5
  have v0 := Ext.cell j0; have v1 := Ext.cell j1; have v2 := Ext.cell j2
  have bk0 := jsB0 ON.out X1.out.1 P1.out.r0; have bk1 := jsB1 ON.out X1.out.2 P1.out.r1
  have bl0 := jsB0 ON'.out X2.out.1 Q1.out.r0; have bl1 := jsB1 ON'.out X2.out.2 Q1.out.r1
  have BK0 := Lib.hid bk0; have BK1 := Lib.hid bk1; have BL0 := Lib.hid bl0; have BL1 := Lib.hid bl1
  clear bk0 bk1 bl0 bl1
  go_wp2_with fail
  refine Mix.wp_region_mix [3, 0, 0, 3, 1, 0, 0, 3, 0, 0, 3, 1, 0, 0] (fun w' => ∃ x : Ext w2, w' = x.w) (by kernel_rfl) (by kernel_rfl) (InExt.drew _) ?_
  repeat (first | (refine Mix.wpMix_read (by rfl) ?_; go_big_quiet_step (fail); refine wpQuiet_nil ?_) | (refine Mix.wpMix_pure (by rfl) ?_; go_big_quiet_step (fail); refine wpQuiet_nil ?_))
  refine Mix.wpMix_chg (by rfl) (fun K hK => ?_)
  go_wp2_with fail
  refine (formulaOf_c sy st A n cp s h T9.a C0 n0 e0 ks0 C1 n1 e1 ks1 C2 n2 e2 T9.os p _ (by exact P1.out.r0.drew) (by exact P1.out.r1.drew) (by exact RdI.drew P1.out.r2) hsy hst (by have := HN0.out; omega) (by omega) (by have := HN2.out; omega) (fun t ht => by have := BK0.out t ht; omega) (fun t ht => by have := BK1.out t ht; omega) (by rw [X1.out.1, X1.out.2]; exact HP.out)).mono ?_
  rintro e w3 ⟨rfl, hb3⟩
  have E3 := Lib.hid (show Below w2.heap.size w2 w3 from below_of_drew hb3)
  clear hb3
  go_wp2_with fail
  refine hK _ _ ⟨⟨_, E3.out⟩, rfl⟩ ?_
  clear hK K
  have T3 := Lib.hid (below_chain T2.out T2.out.size E3.out)
  cases p
  · repeat (first | (refine Mix.wpMix_read (by rfl) ?_; go_big_quiet_step (fail); refine wpQuiet_nil ?_) | (refine Mix.wpMix_pure (by rfl) ?_; go_big_quiet_step (fail); refine wpQuiet_nil ?_))
    repeat (refine Mix.wpMix_skip (by rfl) ?_; simp only [Act.put, List.setIfInBounds_toArray, List.set_cons_succ, List.set_cons_zero])
    repeat (first | (refine Mix.wpMix_read (by rfl) ?_; go_big_quiet_step (fail); refine wpQuiet_nil ?_) | (refine Mix.wpMix_pure (by rfl) ?_; go_big_quiet_step (fail); refine wpQuiet_nil ?_))
    (refine Mix.wpMix_nil ?_; try simp only [Exit.then])
    clear x0 x1 x2 x3 x4 x5 y0 y1 y2 y3 y4 y5 v0 v1 v2
    go_wp2_with fail
    go_ret2
    rw [show R = ([], 5) by rw [← HRR.out]; rfl]
    exact GgOut.bad 5 T3.out
  repeat (first | (refine Mix.wpMix_read (by rfl) ?_; go_big_quiet_step (fail); refine wpQuiet_nil ?_) | (refine Mix.wpMix_pure (by rfl) ?_; go_big_quiet_step (fail); refine wpQuiet_nil ?_))
  refine Mix.wpMix_chg (by rfl) (fun K hK => ?_)
  go_wp2_with fail
  refine (formulaOf_c sy st A n cp s' h' U9.a D0 m0 f0 ls0 D1 m1 f1 ls1 D2 m2 f2 U9.os p' _ (by exact Q1.out.r0.below E3.out) (by exact Q1.out.r1.below E3.out) (by exact RdI.below Q1.out.r2 E3.out) hsy hst (by have := HM0.out; omega) (by omega) (by have := HM2.out; omega) (fun t ht => by have := BL0.out t ht; omega) (fun t ht => by have := BL1.out t ht; omega) (by rw [X2.out.1, X2.out.2]; exact HP'.out)).mono ?_
  rintro e w4 ⟨rfl, hb4⟩
  have E4 := Lib.hid (below_chain E3.out E3.out.size hb4)
  clear hb4
  go_wp2_with fail
  refine hK _ _ ⟨⟨_, E4.out⟩, rfl⟩ ?_
  clear hK K
  repeat (first | (refine Mix.wpMix_read (by rfl) ?_; go_big_quiet_step (fail); refine wpQuiet_nil ?_) | (refine Mix.wpMix_pure (by rfl) ?_; go_big_quiet_step (fail); refine wpQuiet_nil ?_))
  (refine Mix.wpMix_nil ?_; try simp only [Exit.then])
  clear x0 x1 x2 x3 x4 x5 y0 y1 y2 y3 y4 y5 v0 v1 v2 k0 k1 k2 k3 k4 k5 q0 q1 q2 q3 q4 q5 j0 j1 j2
  have T4 := Lib.hid (below_chain T2.out T2.out.size E4.out)
  have P4 := Lib.hid (P1.out.below E4.out); have Q4 := Lib.hid (Q1.out.below E4.out)
  clear P1 Q1
  cases p'
  · go_wp2_with fail
    go_ret2
    rw [show R = ([], 5) by rw [← HRR.out]; rfl]
    exact GgOut.bad 5 T4.out
  obtain ⟨sh, hsh⟩ : ∃ b, shapeB s h T9.a T9.ws T9.rs s' h' U9.a U9.ws U9.rs = b := ⟨_, rfl⟩
  have HS := Lib.hid hsh
  have HRX := Lib.hid (show (if (grwL sh T9.os U9.os).2 then ((grwL sh T9.os U9.os).1, 0) else ([], 3)) = R by rw [← HRR.out, hsh]; rfl)
  clear hsh HRR
  go_wp2_with fail
  refine (sameShape_c g1 g2 s h T9.a C0 n0 e0 ks0 C1 n1 e1 ks1 C2 n2 e2 T9.os s' h' U9.a D0 m0 f0 ls0 D1 m1 f1 ls1 D2 m2 f2 U9.os _ (by exact P4.out) (by exact Q4.out) (by have := HN0.out; omega) (by have := HM0.out; omega) (by omega) (by omega) (fun t ht => by have := BK0.out t ht; omega) (fun t ht => by have := BK1.out t ht; omega)).mono ?_
  rw [X1.out.1, X1.out.2, X2.out.1, X2.out.2, HS.out]
  rintro e w5 ⟨rfl, hq5⟩
  have E5 := Lib.hid (hq5.below w4.heap.size)
  have T5 := Lib.hid (below_chain T4.out T4.out.size E5.out)
  have P5 := Lib.hid (P4.out.below E5.out); have Q5 := Lib.hid (Q4.out.below E5.out)
  clear P4 Q4 hq5
  cases sh
  · go_wp2_with fail
    go_ret2
    rw [show R = ([], 3) by rw [← HRX.out]; rfl]
    exact GgOut.bad 3 T5.out
  have hnm : n1 = m1 := by
    have h1 := HS.out
    unfold shapeB at h1
    simp only [Bool.and_eq_true] at h1
    have h2 := congrArg List.length (of_decide_eq_true h1.2.2.2.2)
    rw [ON.out.nr, ON'.out.nr] at h2
    exact h2
  have hle : m2 = n2 := by rw [HM2.out, HN2.out, hnm]
  have HD := Lib.hid (show ∀ d ∈ diffL T9.os U9.os, d ≤ 2000 from fun d hd => by
    obtain ⟨x, hx, y, hy, rfl⟩ := diffL_mem hd
    have h1 := (formB_ok HP.out).o x hx; have h2 := (formB_ok HP'.out).o y hy
    omega)
  subst hle
  clear hnm
  have hm3 : m2 ≤ 1000 := by have := HM2.out; omega
  have HLo := Lib.hid P5.out.r2.len; have HLo' := Lib.hid Q5.out.r2.len
  have q5 := Q5.out.d5
  have q5a := keepa (.cells #[] 2) q5
  go_wp2_with fail
  clear q5 q5a
  go_loopw [10, 41] (fun ov iv wr => ∃ (k : Nat) (O : Option Addr) (oc : Nat) (acc : List Int), k ≤ m2 ∧ iv = .int .i64 k ∧ ov = .slice O k oc ∧ Hid (diffL T9.os U9.os = acc ++ diffL (T9.os.drop k) (U9.os.drop k)) ∧ Hid (Own wr w5.heap.size 2 1 O k oc (acc.map i64)) ∧ Below w5.heap.size w5 wr) (fun _ iv _ => m2 - (intOf iv).toNat)
  case atStart => exact ⟨0, _, 0, [], by omega, rfl, rfl, rfl, Own.lit (Nat.le_refl _), below_size.alloc (Nat.le_refl _) _⟩
  case round =>
    obtain ⟨k, O, oc, acc, hk, rfl, rfl, hx, hO, hb⟩ := hrel
    have HB := Lib.hid hb
    have hwz := hb.size
    have k5 := (P5.out.below hb).d5
    by_cases hlt : k < m2
    · obtain ⟨ad, x, rfl, hab, hx1, hcx⟩ := (P5.out.below hb).r2.at_ (k := k) hlt
      obtain ⟨ad', y, rfl, hab', hy1, hcy⟩ := (Q5.out.below hb).r2.at_ (k := k) hlt
      have hbx := ON.out.o x (List.mem_of_getElem? hx1); have hby := ON'.out.o y (List.mem_of_getElem? hy1)
      have v1 : IntKind.i64.wrap (y - x) = y - x := IntWalk.i64_in _ (by omega)
      have HX := Lib.hid (show diffL T9.os U9.os = (acc ++ [y - x]) ++ diffL (T9.os.drop (k + 1)) (U9.os.drop (k + 1)) by rw [hx.out, diffL_at hx1 hy1, List.append_assoc]; rfl)
      clear hx hx1 hy1 hb
      go_wp2_with (at_builtin; refine wp_app1 (by rfl) _ _ 25 2 (.int .i64 0) 8 (by rfl) Try.underlying25 info_i64 rfl w5.heap.size O k oc (acc.map i64) (by rfl) (by exact hO.out.alloc _) wr.heap.size (i64 (y - x)) (by rfl) (by exact new_cell _ _ _ 0) rfl (by omega) (by omega) (by simp; omega) ?_; intro g' cap w6 own3 hb3 hk3 hg3 hz3)
      have O3 := Lib.hid own3
      have B3 := Lib.hid (HB.out.trans (((below_size.alloc (Nat.le_refl _) (.cells #[i64 (y - x)] 2)).mono (by omega)).trans hb3))
      clear own3 hb3 hk3 hg3
      go_wp2_with fail
      go_roundw
      case rel => exact ⟨k + 1, some ⟨g', 0, none⟩, cap, acc ++ [y - x], by omega, by go_num, rfl, HX.out, by unfold Hid; rw [List.map_append]; exact O3.out, B3.out⟩
      case measure => simp [intOf]; omega
    · obtain rfl : k = m2 := by omega
      have hacc : diffL T9.os U9.os = acc := by rw [hx.out, diffL_end (by rw [HLo.out]; exact Nat.le_refl _), List.append_nil]
      have HAC := Lib.hid hacc
      obtain ⟨u, hu⟩ : ∃ u, allB 0 2000 acc = u := ⟨_, rfl⟩
      have HU := Lib.hid (show posL acc = u by rw [← hu, allB_posL (by rw [← hacc]; exact HD.out)])
      have HAL := Lib.hid (allWithin_b O k oc acc 0 2000 u hu wr hO.out.wr.rdI (by omega))
      have hz5 := T5.out.size
      clear hx hacc hu hb k5
      go_wp2_with fail
      refine HAL.out.mono ?_
      rintro e w' ⟨rfl, rfl⟩
      cases u
      · go_wp2_with fail
        go_ret2
        rw [show R = ([], 3) by rw [← HRX.out, grwL, HAC.out, HU.out]; rfl]
        exact GgOut.bad 3 (T5.out.trans (HB.out.mono hz5))
      · go_wp2_with fail
        go_ret2
        rw [show R = (acc, 0) by rw [← HRX.out, grwL, HAC.out, HU.out]; rfl]
        exact ⟨O, k, oc, rfl, hO.out.wr.wider hz5 (Nat.le_refl _), by omega, T5.out.trans (HB.out.mono hz5)⟩

set_option maxHeartbeats 8000000 in
set_option maxRecDepth 100000 in
theorem iGrowthOf0_c (sy st : Int) (A : Option Addr) (n cp : Nat) (rs : List Rule3) (s hd a : Int) (A0 : Option Addr) (n0 c0 : Nat) (its0 : List It) (A1 : Option Addr) (n1 c1 : Nat) (its1 : List It) (A2 : Option Addr) (n2 c2 : Nat) (os : List Int) (s' hd' a' : Int) (B0 : Option Addr) (m0 d0 : Nat) (js0 : List It) (B1 : Option Addr) (m1 d1 : Nat) (js1 : List It) (B2 : Option Addr) (m2 d2 : Nat) (os' : List Int) (w : World)
    (h : RdS w [sgX enc3 3 A n rs]) (h' : RdS w (sgForm A0 n0 its0 A1 n1 its1 A2 n2 os)) (h'' : RdS w (sgForm B0 m0 js0 B1 m1 js1 B2 m2 os')) (hn : n ≤ 1000000000) (hn' : n0 ≤ 1000000000) (hna : n1 ≤ 1000000000) (hnb : n2 ≤ 1000000000) (hm' : m0 ≤ 1000000000) (hma : m1 ≤ 1000000000) (hmb : m2 ≤ 1000000000) (hi0 : ∀ t ∈ its0, t.n ≤ 1000000000) (hi1 : ∀ t ∈ its1, t.n ≤ 1000000000) (hj0 : ∀ t ∈ js0, t.n ≤ 1000000000) (hj1 : ∀ t ∈ js1, t.n ≤ 1000000000) :
    Calls Try.prog 39 #[.agg #[.int .i64 sy, .int .i64 st, .slice A n cp], .agg #[.int .i64 s, .int .i64 hd, .int .i64 a, .slice A0 n0 c0, .slice A1 n1 c1, .slice A2 n2 c2], .agg #[.int .i64 s', .int .i64 hd', .int .i64 a', .slice B0 m0 d0, .slice B1 m1 d1, .slice B2 m2 d2]] w (GgOut (grR sy st rs s hd a (its0.map It.xs) (its1.map It.xs) os s' hd' a' (js0.map It.xs) (js1.map It.xs) os') w) := by
  have HL0 := Lib.hid (RdII.len h'.left.left); have HL1 := Lib.hid (RdII.len h'.left.right); have HL2 := Lib.hid (show os.length = n2 from RdI.len (show RdI w A2 n2 os from h'.right.head))
  have HK0 := Lib.hid (RdII.len h''.left.left); have HK1 := Lib.hid (RdII.len h''.left.right); have HK2 := Lib.hid (show os'.length = m2 from RdI.len (show RdI w B2 m2 os' from h''.right.head))
  have H := Lib.hid h; have H' := Lib.hid h'; have H'' := Lib.hid h''
  clear h h' h''
  obtain ⟨w0, hw0⟩ : ∃ w0, ((w.alloc (.cells #[i64 sy, i64 st, .slice A n cp] 34)).alloc (.cells #[i64 s, i64 hd, i64 a, .slice A0 n0 c0, .slice A1 n1 c1, .slice A2 n2 c2] 29)).alloc (.cells #[i64 s', i64 hd', i64 a', .slice B0 m0 d0, .slice B1 m1 d1, .slice B2 m2 d2] 29) = w0 := ⟨_, rfl⟩
  obtain ⟨b0, b1, b2⟩ := boxes3 w #[i64 sy, i64 st, .slice A n cp] #[i64 s, i64 hd, i64 a, .slice A0 n0 c0, .slice A1 n1 c1, .slice A2 n2 c2] #[i64 s', i64 hd', i64 a', .slice B0 m0 d0, .slice B1 m1 d1, .slice B2 m2 d2] 34 29 29
  rw [hw0] at b0 b1 b2
  have BB := Lib.hid (show Below w.heap.size w w0 by rw [← hw0]; exact ((below_size.alloc (Nat.le_refl _) _).alloc (by simp) _).alloc (by simp; omega) _)
  have M0 := Lib.hid b0; have F0 := Lib.hid b1; have G0 := Lib.hid b2
  obtain ⟨q, hq⟩ : ∃ q, machB sy st rs = q := ⟨_, rfl⟩
  obtain ⟨r, hr⟩ : ∃ r, formB sy st s hd a (its0.map It.xs) (its1.map It.xs) os = r := ⟨_, rfl⟩
  obtain ⟨r', hr'⟩ : ∃ r, formB sy st s' hd' a' (js0.map It.xs) (js1.map It.xs) os' = r := ⟨_, rfl⟩
  obtain ⟨R, hR⟩ : ∃ R, grR sy st rs s hd a (its0.map It.xs) (its1.map It.xs) os s' hd' a' (js0.map It.xs) (js1.map It.xs) os' = R := ⟨_, rfl⟩
  rw [hR]
  have HR := Lib.hid (show (if (q && r) && r' then grT sy st s hd s' hd' (nfT hd a (its0.map It.xs) (its1.map It.xs) os) (nfT hd' a' (js0.map It.xs) (js1.map It.xs) os') else ([], 1)) = R by rw [← hR, grR, vformB, hq, hr, hr'])
  have HV1 := Lib.hid (iValidFormula_c sy st A n cp rs s hd a A0 n0 c0 its0 A1 n1 c1 its1 A2 n2 c2 os w0 (H.out.below BB.out) (H'.out.below BB.out) hn hn' hna hnb hi0 hi1)
  have HV2 := Lib.hid (fun w1 (hb : Below w.heap.size w w1) => iValidFormula_c sy st A n cp rs s' hd' a' B0 m0 d0 js0 B1 m1 d1 js1 B2 m2 d2 os' w1 (H.out.below hb) (H''.out.below hb) hn hm' hma hmb hj0 hj1)
  simp only [vformB, hq, hr, hr'] at HV1 HV2
  have HQ := Lib.hid hq; have HRr := Lib.hid hr; have HRr' := Lib.hid hr'
  clear hq hr hr' hR b0 b1 b2 hi0 hi1 hj0 hj1
  have m0' := M0.out.cell 0; have m1' := M0.out.cell 1; have m2' := M0.out.cell 2
  have k0 := F0.out.cell 0; have k1 := F0.out.cell 1; have k2 := F0.out.cell 2; have k3 := F0.out.cell 3; have k4 := F0.out.cell 4; have k5 := F0.out.cell 5
  simp at m0' m1' m2' k0 k1 k2 k3 k4 k5
  simp only [i64] at hw0
  go_enter Try.func39, Try.ntmps39
  go_wp2_with fail
  try clear hw0
  refine HV1.out.mono ?_
  rintro e w1 ⟨rfl, hb⟩
  have T1 := Lib.hid (below_chain BB.out BB.out.size hb)
  have M1 := Lib.hid (M0.out.keep hb); have F1 := Lib.hid (F0.out.keep hb); have G1 := Lib.hid (G0.out.keep hb)
  clear hb HV1 m0' m1' m2' k0 k1 k2 k3 k4 k5 M0 F0 G0
  obtain ⟨v, hv⟩ : ∃ v, (q && r) = v := ⟨_, rfl⟩
  rw [hv] at HR ⊢
  cases v
  · have HE := Lib.hid (show R = ([], 1) by rw [← HR.out]; rfl)
    clear hv
    go_wp2_with fail
    go_ret2
    rw [HE.out]
    exact GgOut.bad 1 T1.out
  have hqt : q = true := by cases q <;> simp_all
  have hrt : r = true := by cases r <;> simp_all
  subst hqt; subst hrt
  clear hv
  have m0' := M1.out.cell 0; have m1' := M1.out.cell 1; have m2' := M1.out.cell 2
  have q0 := G1.out.cell 0; have q1 := G1.out.cell 1; have q2 := G1.out.cell 2; have q3 := G1.out.cell 3; have q4 := G1.out.cell 4; have q5 := G1.out.cell 5
  simp at m0' m1' m2' q0 q1 q2 q3 q4 q5
  go_wp2_with fail
  refine (HV2.out w1 T1.out).mono ?_
  rintro e w2 ⟨rfl, hb⟩
  have T2 := Lib.hid (below_chain T1.out T1.out.size hb)
  have M2 := Lib.hid (M1.out.keep hb); have F2 := Lib.hid (F1.out.keep hb); have G2 := Lib.hid (G1.out.keep hb)
  clear hb HV2 m0' m1' m2' q0 q1 q2 q3 q4 q5 M1 F1 G1
  cases r'
  · have HE := Lib.hid (show R = ([], 1) by rw [← HR.out]; rfl)
    go_wp2_with fail
    go_ret2
    rw [HE.out]
    exact GgOut.bad 1 T2.out
  have hbd := machB_bd HQ.out
  have FO := formB_ok HRr.out; have FO' := formB_ok HRr'.out
  have hrl : (its1.map It.xs).length = n1 := by rw [List.length_map]; exact HL1.out
  have hrl' : (js1.map It.xs).length = m1 := by rw [List.length_map]; exact HK1.out
  have hr3 : 1 ≤ n1 ∧ n1 ≤ 3 := by have := FO.r; omega
  have hr3' : 1 ≤ m1 ∧ m1 ≤ 3 := by have := FO'.r; omega
  have hn0 : n0 = n1 + 1 := by have := FO.nw; rw [List.length_map, HL0.out, hrl] at this; exact this
  have hn2 : n2 = n1 := by have := FO.no; rw [HL2.out, hrl] at this; exact this
  have hm0 : m0 = m1 + 1 := by have := FO'.nw; rw [List.length_map, HK0.out, hrl'] at this; exact this
  have hm2 : m2 = m1 := by have := FO'.no; rw [HK2.out, hrl'] at this; exact this
  have hhd := FO.hhd; have hhd' := FO'.hhd
  rw [hrl] at hhd; rw [hrl'] at hhd'
  obtain ⟨hh, rfl⟩ := Int.eq_ofNat_of_zero_le hhd.1
  obtain ⟨hh', rfl⟩ := Int.eq_ofNat_of_zero_le hhd'.1
  have OK := Lib.hid (FO.okN hrl); have OK' := Lib.hid (FO'.okN hrl')
  have HRR := Lib.hid (show grT sy st s hh s' hh' (normN hh n1 ⟨a, its0.map It.xs, its1.map It.xs, os⟩) (normN hh' m1 ⟨a', js0.map It.xs, js1.map It.xs, os'⟩) = R by rw [← HR.out, nfT, nfT, hrl, hrl']; rfl)
  have GC := Lib.hid (growth_c sy st A n cp s hh hh' a A0 n0 c0 its0 A1 n1 c1 its1 A2 n2 c2 os s' a' B0 m0 d0 js0 B1 m1 d1 js1 B2 m2 d2 os' w2 (H'.out.below T2.out) (H''.out.below T2.out) hbd.1 hbd.2.1 OK.out OK'.out hr3 hr3' hn0 hn2 hm0 hm2 (by omega) (by omega))
  rw [HRR.out] at GC
  clear FO FO' hrl hrl' hn0 hn2 hm0 hm2 hhd hhd' HR
  have m0' := M2.out.cell 0; have m1' := M2.out.cell 1; have m2' := M2.out.cell 2
  have k0 := F2.out.cell 0; have k1 := F2.out.cell 1; have k2 := F2.out.cell 2; have k3 := F2.out.cell 3; have k4 := F2.out.cell 4; have k5 := F2.out.cell 5
  have q0 := G2.out.cell 0; have q1 := G2.out.cell 1; have q2 := G2.out.cell 2; have q3 := G2.out.cell 3; have q4 := G2.out.cell 4; have q5 := G2.out.cell 5
  simp at m0' m1' m2' k0 k1 k2 k3 k4 k5 q0 q1 q2 q3 q4 q5
  go_wp2_with fail
  refine GC.out.mono ?_
  rintro e w3 ⟨Z, zn, zc, rfl, hZ, hzn, hb⟩
  have W3 := Lib.hid hZ
  have T3 := Lib.hid (below_chain T2.out T2.out.size hb)
  have hz2 := T2.out.size
  clear hZ hb GC m0' m1' m2' k0 k1 k2 k3 k4 k5 q0 q1 q2 q3 q4 q5
  go_wp2_with fail
  go_ret2
  exact ⟨Z, zn, zc, rfl, W3.out.wider hz2 (Nat.le_refl _), hzn, T3.out⟩
theorem sGrowthOf_c (sy st : Int) (A : Option Addr) (n cp : Nat) (rs : List Rule3) (s hd a : Int) (A0 : Option Addr) (n0 c0 : Nat) (its0 : List It) (A1 : Option Addr) (n1 c1 : Nat) (its1 : List It) (A2 : Option Addr) (n2 c2 : Nat) (os : List Int) (s' hd' a' : Int) (B0 : Option Addr) (m0 d0 : Nat) (js0 : List It) (B1 : Option Addr) (m1 d1 : Nat) (js1 : List It) (B2 : Option Addr) (m2 d2 : Nat) (os' : List Int) (w : World) {W RP W' RP' : List (List Int)}
    (h : RdS w [sgX enc3 3 A n rs]) (h' : RdS w (sgForm A0 n0 its0 A1 n1 its1 A2 n2 os)) (h'' : RdS w (sgForm B0 m0 js0 B1 m1 js1 B2 m2 os')) (hn : n ≤ 1000000000) (hn' : n0 ≤ 1000000000) (hna : n1 ≤ 1000000000) (hnb : n2 ≤ 1000000000) (hn'' : m0 ≤ 1000000000) (hnc1 : m1 ≤ 1000000000) (hnd : m2 ≤ 1000000000) (hi0 : ∀ t ∈ its0, t.n ≤ 1000000000) (hi1 : ∀ t ∈ its1, t.n ≤ 1000000000) (hi0' : ∀ t ∈ js0, t.n ≤ 1000000000) (hi1' : ∀ t ∈ js1, t.n ≤ 1000000000)
    (hw0 : its0.map It.xs = W) (hw1 : its1.map It.xs = RP) (hw0' : js0.map It.xs = W') (hw1' : js1.map It.xs = RP') {RR : List Int × Int} (hRR : grR sy st rs s hd a W RP os s' hd' a' W' RP' os' = RR) :
    Calls Try.prog 38 #[.agg #[.int .i64 sy, .int .i64 st, .slice A n cp], .agg #[.int .i64 s, .int .i64 hd, .int .i64 a, .slice A0 n0 c0, .slice A1 n1 c1, .slice A2 n2 c2], .agg #[.int .i64 s', .int .i64 hd', .int .i64 a', .slice B0 m0 d0, .slice B1 m1 d1, .slice B2 m2 d2]] w (GgOut RR w) := by
  subst hw0; subst hw1; subst hw0'; subst hw1'; subst hRR
  exact sGrowthOf0_c sy st A n cp rs s hd a A0 n0 c0 its0 A1 n1 c1 its1 A2 n2 c2 os s' hd' a' B0 m0 d0 js0 B1 m1 d1 js1 B2 m2 d2 os' w h h' h'' hn hn' hna hnb hn'' hnc1 hnd hi0 hi1 hi0' hi1'
theorem iGrowthOf_c (sy st : Int) (A : Option Addr) (n cp : Nat) (rs : List Rule3) (s hd a : Int) (A0 : Option Addr) (n0 c0 : Nat) (its0 : List It) (A1 : Option Addr) (n1 c1 : Nat) (its1 : List It) (A2 : Option Addr) (n2 c2 : Nat) (os : List Int) (s' hd' a' : Int) (B0 : Option Addr) (m0 d0 : Nat) (js0 : List It) (B1 : Option Addr) (m1 d1 : Nat) (js1 : List It) (B2 : Option Addr) (m2 d2 : Nat) (os' : List Int) (w : World) {W RP W' RP' : List (List Int)}
    (h : RdS w [sgX enc3 3 A n rs]) (h' : RdS w (sgForm A0 n0 its0 A1 n1 its1 A2 n2 os)) (h'' : RdS w (sgForm B0 m0 js0 B1 m1 js1 B2 m2 os')) (hn : n ≤ 1000000000) (hn' : n0 ≤ 1000000000) (hna : n1 ≤ 1000000000) (hnb : n2 ≤ 1000000000) (hn'' : m0 ≤ 1000000000) (hnc1 : m1 ≤ 1000000000) (hnd : m2 ≤ 1000000000) (hi0 : ∀ t ∈ its0, t.n ≤ 1000000000) (hi1 : ∀ t ∈ its1, t.n ≤ 1000000000) (hi0' : ∀ t ∈ js0, t.n ≤ 1000000000) (hi1' : ∀ t ∈ js1, t.n ≤ 1000000000)
    (hw0 : its0.map It.xs = W) (hw1 : its1.map It.xs = RP) (hw0' : js0.map It.xs = W') (hw1' : js1.map It.xs = RP') {RR : List Int × Int} (hRR : grR sy st rs s hd a W RP os s' hd' a' W' RP' os' = RR) :
    Calls Try.prog 39 #[.agg #[.int .i64 sy, .int .i64 st, .slice A n cp], .agg #[.int .i64 s, .int .i64 hd, .int .i64 a, .slice A0 n0 c0, .slice A1 n1 c1, .slice A2 n2 c2], .agg #[.int .i64 s', .int .i64 hd', .int .i64 a', .slice B0 m0 d0, .slice B1 m1 d1, .slice B2 m2 d2]] w (GgOut RR w) := by
  subst hw0; subst hw1; subst hw0'; subst hw1'; subst hRR
  exact iGrowthOf0_c sy st A n cp rs s hd a A0 n0 c0 its0 A1 n1 c1 its1 A2 n2 c2 os s' hd' a' B0 m0 d0 js0 B1 m1 d1 js1 B2 m2 d2 os' w h h' h'' hn hn' hna hnb hn'' hnc1 hnd hi0 hi1 hi0' hi1'
end Go.Proofs.Ytmmgejnhfpfmnaa
