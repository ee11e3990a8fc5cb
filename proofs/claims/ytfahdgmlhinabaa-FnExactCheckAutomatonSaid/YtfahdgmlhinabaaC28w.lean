/-
  Contracts of chapter 28 (automata): whether a proof by automata is accepted.
-/
import Derived.Test.YtfahdgmlhinabaaC28u
import Derived.Test.YtfahdgmlhinabaaC25
import Derived.Test.YtfahdgmlhinabaaC26u
import Derived.Test.YtfahdgmlhinabaaOpenII
namespace Go.Proofs.Ytfahdgmlhinabaa
open Go.RowKit

/-- a struct that is built, in a region that draws its order -/
theorem Mix.wpMix_build {P : Program} {ops : Array Oper} {C : World → Prop} {Q : Act → World → Prop} {o : Oper} {ks : List Nat} {l : List Oper} {a : Act} {w : World} (hw : Region.wanted o (yielded ops a.tmps) = true) (t : TypeId) (ps : Array (Nat × Operand)) (ho : o.op = .build t ps) (v : Value)
    (hrun : ∀ w, (Instr.build t (ps.map fun (i, x) => (i, a.eval x))).run P w = .ok v w) (h : Mix.wpMix P ops C Q ks l (a.put o.dst v) w) : Mix.wpMix P ops C Q (0 :: ks) (o :: l) a w := by
  unfold Mix.wpMix
  rw [if_pos hw, if_pos rfl]
  refine ⟨v, fun w => ?_, h⟩
  refine .inl ?_
  unfold Mix.readAt
  simp only [execOp, ho, Sem.run_bind, hrun, Result.andThen_ok, Sem.run_pure]
/-- whether a proof by automata is accepted -/
def chkB (sy st : Int) (rs : List Rule3) (kd : Int) (xs : List Int) (xss : List (List Int)) : Bool :=
  machB sy st rs && decide (kd = 7) && decide (xss.length = 0) && decide (2 ≤ xs.length) && inB (xs.getD 0 0) 1 20 && inB (xs.getD 1 0) 1 20 && decide (((xs.drop 2).length : Int) = (xs.getD 0 0 + xs.getD 1 0) * sy) &&
    avR sy st rs (xs.getD 0 0) ((xs.drop 2).take (xs.getD 0 0 * sy).toNat) (xs.getD 1 0) ((xs.drop 2).drop (xs.getD 0 0 * sy).toNat)
theorem allB_of {lo hi : Int} : ∀ {xs : List Int}, (∀ x ∈ xs, lo ≤ x ∧ x ≤ hi) → allB lo hi xs = true
  | [], _ => rfl
  | x :: l, h => by
    have h1 := h x (by simp)
    have h2 := allB_of (xs := l) (fun y hy => h y (by simp [hy]))
    simp [allB, h2, inB, h1.1, h1.2]
/-- an accepted proof is a valid one -/
theorem chk_proof {sy st : Int} {rs : List Rule3} {kd : Int} {xs : List Int} {xss : List (List Int)} (h : chkB sy st rs kd xs xss = true) : proofB kd xs xss = true := by
  simp only [chkB, Bool.and_eq_true, decide_eq_true_eq] at h
  obtain ⟨⟨⟨⟨⟨⟨⟨hm, hk⟩, hw⟩, h2⟩, ha⟩, hb⟩, hl⟩, hv⟩ := h
  have hv1 : readyB sy st rs (xs.getD 0 0) ((xs.drop 2).take (xs.getD 0 0 * sy).toNat) (xs.getD 1 0) ((xs.drop 2).drop (xs.getD 0 0 * sy).toNat) = true := by rw [avR, Bool.and_eq_true] at hv; exact hv.1
  obtain ⟨_, hdl, hdr⟩ := readyB_parts hv1
  obtain ⟨a, b, rest, rfl⟩ : ∃ a b rest, xs = a :: b :: rest := by
    match xs, h2 with
    | a :: b :: rest, _ => exact ⟨a, b, rest, rfl⟩
  have ha' := inB_t ha; have hb' := inB_t hb
  simp only [List.getD_cons_zero, List.getD_cons_succ, List.drop_succ_cons, List.drop_zero] at ha' hb' hl hdl hdr
  obtain rfl : xss = [] := List.length_eq_zero_iff.1 hw
  subst hk
  have hsy := (machB_bd hm).1
  have e1 := mul_le2 (a := a + b) (b := sy) (A := 40) (B := 6) (by omega) (by omega)
  have hall : ∀ x ∈ rest, 0 ≤ x ∧ x ≤ 19 := by
    intro x hx
    rw [← List.take_append_drop (a * sy).toNat rest] at hx
    rcases List.mem_append.1 hx with hx | hx
    · have := hdl.all x hx; omega
    · have := hdr.all x hx; omega
  have hA : allB (-1000000000000) 1000000000000 (a :: b :: rest) = true := allB_of (fun x hx => by
    rcases List.mem_cons.1 hx with rfl | hx
    · omega
    · rcases List.mem_cons.1 hx with rfl | hx
      · omega
      · have := hall x hx; omega)
  rw [proofB, hA]
  simp only [Bool.and_eq_true, decide_eq_true_eq, List.length_cons, List.length_nil]
  refine ⟨⟨⟨⟨by decide, by omega⟩, by omega⟩, trivial⟩, rfl⟩
theorem RdI.take {w : World} {A : Option Addr} {n k : Nat} {xs : List Int} (h : RdI w A n xs) (hk : k ≤ n) : RdI w A k (xs.take k) := by
  have hl := h.len
  refine ⟨by rw [List.length_map, List.length_take]; omega, fun h0 => ?_⟩
  obtain ⟨ad, e, hb, hc⟩ := h.2 (by omega)
  refine ⟨ad, e, hb, fun j u hj => hc j u ?_⟩
  rw [List.map_take, List.getElem?_take] at hj
  split at hj
  · exact hj
  · cases hj
set_option maxHeartbeats 4000000 in
set_option maxRecDepth 100000 in
theorem sCheckAutomaton_c (sy st : Int) (A : Option Addr) (n cp : Nat) (rs : List Rule3) (kd : Int) (A1 : Option Addr) (n1 c1 : Nat) (xs : List Int) (A2 : Option Addr) (n2 c2 : Nat) (its : List It) (w : World)
    (h : RdS w [sgX enc3 3 A n rs]) (h' : RdS w ([sgI A1 n1 xs] ++ sgII A2 n2 its)) (hn : n ≤ 1000000000) (hn' : n1 ≤ 1000000000 ∧ n2 ≤ 1000000000) (hnc : n1 ≤ c1) :
    Calls Try.prog 39 #[.agg #[.int .i64 sy, .int .i64 st, .slice A n cp], .agg #[.int .i64 kd, .slice A1 n1 c1, .slice A2 n2 c2]] w fun e w' => e = .returned (.bool (chkB sy st rs kd xs (its.map It.xs))) ∧ Below w.heap.size w w' := by
  replace h : Rd3 w A n rs := h.head
  have HLx := Lib.hid (show xs.length = n1 from RdI.len h'.left.head)
  have HLi := Lib.hid (show (its.map It.xs).length = n2 by rw [List.length_map]; exact RdII.len h'.right)
  obtain ⟨w0, hw0⟩ : ∃ w0, (w.alloc (.cells #[i64 sy, i64 st, .slice A n cp] 32)).alloc (.cells #[i64 kd, .slice A1 n1 c1, .slice A2 n2 c2] 69) = w0 := ⟨_, rfl⟩
  have B0 := Lib.hid (show Below w.heap.size w w0 by rw [← hw0]; exact (below_size.alloc (Nat.le_refl _) _).alloc (by simp) _)
  have M0 := Lib.hid (show MachP w0 w.heap.size sy st A n cp rs by
    have b0 := (Blk.new w 32 #[i64 sy, i64 st, .slice A n cp]).alloc (.cells #[i64 kd, .slice A1 n1 c1, .slice A2 n2 c2] 69)
    rw [hw0] at b0
    exact ⟨b0.cell 0, b0.cell 1, b0.cell 2, h.below B0.out⟩)
  have P0 := Lib.hid (show Blk w0 (w.heap.size + 1) 69 #[i64 kd, .slice A1 n1 c1, .slice A2 n2 c2] by rw [← hw0]; have := Blk.new (w.alloc (.cells #[i64 sy, i64 st, .slice A n cp] 32)) 69 #[i64 kd, .slice A1 n1 c1, .slice A2 n2 c2]; rwa [World.size_alloc] at this)
  have X0 := Lib.hid (show RdI w0 A1 n1 xs from Rd.below h'.left.head B0.out)
  obtain ⟨R, hR⟩ : ∃ R, chkB sy st rs kd xs (its.map It.xs) = R := ⟨_, rfl⟩
  rw [hR]
  obtain ⟨u, hu⟩ : ∃ u, machB sy st rs = u := ⟨_, rfl⟩
  have HU := Lib.hid hu
  have HR := Lib.hid (show R = (u && decide (kd = 7) && decide (n2 = 0) && decide (2 ≤ n1) && inB (xs.getD 0 0) 1 20 && inB (xs.getD 1 0) 1 20 && decide (((n1 - 2 : Nat) : Int) = (xs.getD 0 0 + xs.getD 1 0) * sy) &&
      avR sy st rs (xs.getD 0 0) ((xs.drop 2).take (xs.getD 0 0 * sy).toNat) (xs.getD 1 0) ((xs.drop 2).drop (xs.getD 0 0 * sy).toNat)) by
    rw [← hR, chkB, hu, HLi.out, HLx.out, List.length_drop, HLx.out])
  have p0 := P0.out.cell 0; have p1 := P0.out.cell 1; have p2 := P0.out.cell 2
  simp at p0 p1 p2
  clear h h' hR
  go_enter Try.func39, Try.ntmps39
  go_wp2_with fail
  refine (l05Is_c w.heap.size sy st A n cp rs u _ (by exact M0.out) hn hu).mono ?_
  rintro e w1 ⟨rfl, hb⟩
  have M1 := Lib.hid (M0.out.below hb); have P1 := Lib.hid (P0.out.keep hb); have X1 := Lib.hid (X0.out.below hb); have B1 := Lib.hid (below_chain B0.out B0.out.size hb)
  clear hb hu hw0 p0 p1 p2
  have p0 := P1.out.cell 0; have p1 := P1.out.cell 1; have p2 := P1.out.cell 2
  simp at p0 p1 p2
  cases u
  · go_wp2_with fail
    go_ret
    exact ⟨by rw [HR.out]; rfl, B1.out⟩
  by_cases k7 : kd = 7
  rotate_left
  · have kb : (kd != 7) = true := by simpa using k7
    go_wp2_with fail
    go_ret
    exact ⟨by rw [HR.out, decide_eq_false k7]; rfl, B1.out⟩
  have kb : (kd != 7) = false := by simpa using k7
  have HR1 := Lib.hid (show R = (decide (n2 = 0) && decide (2 ≤ n1) && inB (xs.getD 0 0) 1 20 && inB (xs.getD 1 0) 1 20 && decide (((n1 - 2 : Nat) : Int) = (xs.getD 0 0 + xs.getD 1 0) * sy) &&
      avR sy st rs (xs.getD 0 0) ((xs.drop 2).take (xs.getD 0 0 * sy).toNat) (xs.getD 1 0) ((xs.drop 2).drop (xs.getD 0 0 * sy).toNat)) by rw [HR.out, decide_eq_true k7]; simp)
  clear HR k7
  by_cases k0 : n2 = 0
  rotate_left
  · have kc : ((n2 : Int) != 0) = true := by simp; omega
    go_wp2_with fail
    go_ret
    exact ⟨by rw [HR1.out, decide_eq_false k0]; rfl, B1.out⟩
  have kc : ((n2 : Int) != 0) = false := by simp; omega
  by_cases k2 : 2 ≤ n1
  rotate_left
  · have kd2 : decide ((n1 : Int) < 2) = true := decide_eq_true (by omega)
    go_wp2_with fail
    go_ret
    exact ⟨by rw [HR1.out, decide_eq_false k2]; simp, B1.out⟩
  have kd2 : decide ((n1 : Int) < 2) = false := decide_eq_false (by omega)
  obtain ⟨ad, x0, rfl, _, hx0, hc0⟩ := X1.out.at_ (k := 0) (by omega)
  obtain ⟨ad', x1, e1, _, hx1, hc1⟩ := X1.out.at_ (k := 1) (by omega)
  injection e1 with e1; subst e1
  have ea : ad.add 0 = ad := by simp [Addr.add]
  have eb : ad.add 1 = ⟨ad.block, ad.off + 1, none⟩ := by simp [Addr.add]
  rw [ea] at hc0; rw [eb] at hc1
  have HR2 := Lib.hid (show R = (inB x0 1 20 && inB x1 1 20 && decide (((n1 - 2 : Nat) : Int) = (x0 + x1) * sy) &&
      avR sy st rs x0 ((xs.drop 2).take (x0 * sy).toNat) x1 ((xs.drop 2).drop (x0 * sy).toNat)) by rw [HR1.out, decide_eq_true k0, decide_eq_true k2, getD_at hx0, getD_at hx1]; simp)
  clear HR1 hx0 hx1 ea eb
  obtain ⟨i1, hi1⟩ : ∃ i, inB x0 1 20 = i := ⟨_, rfl⟩
  obtain ⟨i2, hi2⟩ : ∃ i, inB x1 1 20 = i := ⟨_, rfl⟩
  have HI1 := Lib.hid hi1; have HI2 := Lib.hid hi2
  clear hi1 hi2
  have hc1a := fun o => keepa o hc1; have p1a := fun o => keepa o p1
  go_wp2_with fail
  obtain ⟨w2, hw2⟩ : ∃ w2, (w1.alloc (.cells #[.int .i64 x0, .slice none 0 0] 61)).alloc (.cells #[.int .i64 x1, .slice none 0 0] 61) = w2 := ⟨_, rfl⟩
  rw [hw2]
  have E2 := Lib.hid (show Below w1.heap.size w1 w2 by rw [← hw2]; exact (below_size.alloc (Nat.le_refl _) _).alloc (by simp) _)
  have DL := Lib.hid (show Blk w2 w1.heap.size 61 #[.int .i64 x0, .slice none 0 0] by rw [← hw2]; exact (Blk.new w1 _ _).alloc _)
  have DR := Lib.hid (show Blk w2 (w1.heap.size + 1) 61 #[.int .i64 x1, .slice none 0 0] by rw [← hw2]; have := Blk.new (w1.alloc (.cells #[.int .i64 x0, .slice none 0 0] 61)) 61 #[.int .i64 x1, .slice none 0 0]; rwa [World.size_alloc] at this)
  have M2 := Lib.hid (M1.out.below E2.out); have X2 := Lib.hid (X1.out.below E2.out)
  have P2 := Lib.hid (P1.out.keep E2.out)
  have B2 := Lib.hid (below_chain B1.out B1.out.size E2.out)
  clear hw2 hc1a p1a hc0 hc1 p0 p1 p2
  have p1 := P2.out.cell 1
  have l0 := DL.out.cell 0; have r0 := DR.out.cell 0
  have m0 := M2.out.c0
  simp at p1 l0 r0
  refine (l00In_b _ _ _ _ HI1.out _).mono ?_
  rintro e w' ⟨rfl, rfl⟩
  cases i1
  · go_wp2_with fail
    go_ret
    exact ⟨by rw [HR2.out, HI1.out]; rfl, B2.out⟩
  go_wp2_with fail
  refine (l00In_b _ _ _ _ HI2.out _).mono ?_
  rintro e w' ⟨rfl, rfl⟩
  cases i2
  · go_wp2_with fail
    go_ret
    exact ⟨by rw [HR2.out, HI1.out, HI2.out]; rfl, B2.out⟩
  have hx0 := inB_t HI1.out; have hx1 := inB_t HI2.out
  have hbd := machB_bd HU.out
  have e1 := mul_le2 (a := x0 + x1) (b := sy) (A := 40) (B := 6) (by omega) (by omega)
  have e2 := mul_le2 (a := x0) (b := sy) (A := 20) (B := 6) (by omega) (by omega)
  have e3 : (x0 + x1) * sy = x0 * sy + x1 * sy := Int.add_mul _ _ _
  have e4 : 1 * 2 ≤ x1 * sy := Int.mul_le_mul hx1.1 hbd.1.1 (by omega) (by omega)
  have HR3 := Lib.hid (show R = (decide (((n1 - 2 : Nat) : Int) = (x0 + x1) * sy) && avR sy st rs x0 ((xs.drop 2).take (x0 * sy).toNat) x1 ((xs.drop 2).drop (x0 * sy).toNat)) by rw [HR2.out, HI1.out, HI2.out]; rfl)
  obtain ⟨qa, hqa⟩ := Int.eq_ofNat_of_zero_le e2.1
  obtain ⟨qs, hqs⟩ := Int.eq_ofNat_of_zero_le e1.1
  have v1 : IntKind.i64.wrap (x0 + x1) = x0 + x1 := IntWalk.i64_in _ (by omega)
  have v2 : IntKind.i64.wrap ((x0 + x1) * sy) = (qs : Int) := (IntWalk.i64_in _ (by omega)).trans hqs
  have v3 : IntKind.i64.wrap (x0 * sy) = (qa : Int) := (IntWalk.i64_in _ (by omega)).trans hqa
  have v1' : wrap64 (x0 + x1) = x0 + x1 := by unfold wrap64; omega
  have v2' : wrap64 ((x0 + x1) * sy) = (qs : Int) := by unfold wrap64; omega
  have v3' : wrap64 (x0 * sy) = (qa : Int) := by unfold wrap64; omega
  have hqaqs : qa < qs := by omega
  have HE := Lib.hid (And.intro hqa hqs)
  clear HR2 e1 e2 e3 e4 hqa hqs
  by_cases k3 : 2 < n1
  rotate_left
  · have hn2' : n1 = 2 := by omega
    subst hn2'
    have HF := Lib.hid (show R = false by rw [HR3.out, HE.out.2, decide_eq_false (by omega)]; rfl)
    have kq : ((0 : Int) != (qs : Int)) = true := by simp; omega
    go_wp2_with fail
    all_goals
      go_ret
      exact ⟨by rw [HF.out]; rfl, B2.out⟩
  by_cases k4 : n1 - 2 = qs
  rotate_left
  · have HF := Lib.hid (show R = false by rw [HR3.out, HE.out.2, decide_eq_false (by omega)]; rfl)
    have kq : (((n1 - 2 : Nat) : Int) != (qs : Int)) = true := by simp; omega
    go_wp2_with fail
    go_ret
    exact ⟨by rw [HF.out]; rfl, B2.out⟩
  have HF := Lib.hid (show R = avR sy st rs x0 ((xs.drop 2).take qa) x1 ((xs.drop 2).drop qa) by rw [HR3.out, HE.out.2, HE.out.1, decide_eq_true (by omega)]; simp)
  have kq : (((n1 - 2 : Nat) : Int) != (qs : Int)) = false := by simp; omega
  have XD := Lib.hid (X2.out.drop (k := 2) (by omega))
  have XL := Lib.hid (XD.out.take (k := qa) (by omega))
  have XR := Lib.hid (XD.out.drop (k := qa) (by omega))
  obtain ⟨wL, hwL⟩ : ∃ wL, w2.setCell ⟨w1.heap.size, 1, none⟩ (.slice (some ⟨ad.block, ad.off + 2, none⟩) qa (c1 - 2)) = wL := ⟨_, rfl⟩
  have EL := Lib.hid (show Below w1.heap.size w1 wL by rw [← hwL]; exact E2.out.setCell (by exact Nat.le_refl _) _)
  have LL := Lib.hid (show Blk wL w1.heap.size 61 #[.int .i64 x0, .slice (some ⟨ad.block, ad.off + 2, none⟩) qa (c1 - 2)] by rw [← hwL]; have := DL.out.set_ 1 (.slice (some ⟨ad.block, ad.off + 2, none⟩) qa (c1 - 2)); simpa using this)
  have LR := Lib.hid (show Blk wL (w1.heap.size + 1) 61 #[.int .i64 x1, .slice none 0 0] by rw [← hwL]; exact DR.out.far (by show w1.heap.size + 1 ≠ w1.heap.size; omega) _)
  have ML := Lib.hid (M1.out.below EL.out); have PL := Lib.hid (P1.out.keep EL.out)
  have l1 := DL.out.cell 1; have f1 := DL.out.frozen 1
  simp at l1
  have ll0 := LL.out.cell 0; have rr1 := LR.out.cell 1; have rf1 := LR.out.frozen 1; have mm0 := ML.out.c0
  simp at ll0 rr1
  go_wp2_with fail
  obtain ⟨wR, hwR⟩ : ∃ wR, wL.setCell ⟨w1.heap.size + 1, 1, none⟩ (.slice (some ⟨ad.block, ad.off + 2 + qa, none⟩) (qs - qa) (c1 - 2 - qa)) = wR := ⟨_, rfl⟩
  rw [hwR]
  have ER := Lib.hid (show Below w1.heap.size w1 wR by rw [← hwR]; exact EL.out.setCell (by show _ ≤ w1.heap.size + 1; omega) _)
  have RL := Lib.hid (show Blk wR w1.heap.size 61 #[.int .i64 x0, .slice (some ⟨ad.block, ad.off + 2, none⟩) qa (c1 - 2)] by rw [← hwR]; exact LL.out.far (by show w1.heap.size ≠ w1.heap.size + 1; omega) _)
  have RR := Lib.hid (show Blk wR (w1.heap.size + 1) 61 #[.int .i64 x1, .slice (some ⟨ad.block, ad.off + 2 + qa, none⟩) (qs - qa) (c1 - 2 - qa)] by rw [← hwR]; have := LR.out.set_ 1 (.slice (some ⟨ad.block, ad.off + 2 + qa, none⟩) (qs - qa) (c1 - 2 - qa)); simpa using this)
  have XX := Lib.hid (X1.out.below ER.out)
  have ea2 : ad.add 2 = ⟨ad.block, ad.off + 2, none⟩ := by simp [Addr.add]
  have ea3 : (ad.add 2).add qa = ⟨ad.block, ad.off + 2 + qa, none⟩ := by simp [Addr.add]
  have DA := Lib.hid (show DfaP wR w1.heap.size x0 (some ⟨ad.block, ad.off + 2, none⟩) qa (c1 - 2) ((xs.drop 2).take qa) from ⟨RL.out.cell 0, RL.out.cell 1, by
    have := (XX.out.drop (k := 2) (by omega)).take (k := qa) (by omega)
    rw [ea2] at this; exact this⟩)
  have DB := Lib.hid (show DfaP wR (w1.heap.size + 1) x1 (some ⟨ad.block, ad.off + 2 + qa, none⟩) (qs - qa) (c1 - 2 - qa) ((xs.drop 2).drop qa) from ⟨RR.out.cell 0, RR.out.cell 1, by
    have := (XX.out.drop (k := 2) (by omega)).drop (k := qa) (by omega)
    rw [ea3, k4] at this; exact this⟩)
  have MR := Lib.hid (M1.out.below ER.out)
  have BR := Lib.hid (below_chain B1.out B1.out.size ER.out)
  clear hwL hwR l1 f1 ll0 rr1 rf1 mm0 ea2 ea3 l0 r0 m0 p1
  obtain ⟨L1, hL1⟩ : ∃ L, (xs.drop 2).take qa = L := ⟨_, rfl⟩
  obtain ⟨L2, hL2⟩ : ∃ L, (xs.drop 2).drop qa = L := ⟨_, rfl⟩
  rw [hL1] at DA HF
  rw [hL2] at DB HF
  clear hL1 hL2
  obtain ⟨q, hq⟩ : ∃ q, readyB sy st rs x0 L1 x1 L2 = q := ⟨_, rfl⟩
  have HQ := Lib.hid hq
  have HFF := Lib.hid (show R = (q && avoidsB rs sy L1 L2) by rw [HF.out, avR, hq])
  refine (l28Ready_c _ sy st A n cp rs _ x0 _ qa (c1 - 2) L1 _ x1 _ (qs - qa) (c1 - 2 - qa) L2 q _ (by exact MR.out) (by exact DA.out) (by exact DB.out) hn (by omega) (by omega) hq).mono ?_
  rintro e w3 ⟨rfl, hb⟩
  have E3 := Lib.hid hb
  clear hb hq
  cases q
  · go_wp2_with fail
    go_ret
    exact ⟨by rw [HFF.out]; rfl, below_chain BR.out BR.out.size E3.out⟩
  · obtain ⟨hm, hdl, hdr⟩ := readyB_parts HQ.out
    have HC := Lib.hid (l28Avoids_c _ sy st A n cp rs _ x0 _ qa (c1 - 2) L1 _ x1 _ (qs - qa) (c1 - 2 - qa) L2 w3 (MR.out.below E3.out) (DA.out.below E3.out) (DB.out.below E3.out) hm hdl hdr)
    clear hm hdl hdr
    go_wp2_with fail
    refine HC.out.mono ?_
    rintro e w4 ⟨rfl, hb⟩
    have B4 := Lib.hid (below_chain (below_chain BR.out BR.out.size E3.out) (by have := BR.out.size; have := E3.out.size; omega) hb)
    obtain ⟨v, hv⟩ : ∃ v, avoidsB rs sy L1 L2 = v := ⟨_, rfl⟩
    rw [hv] at HFF ⊢
    clear hb hv HC
    go_wp2_with fail
    go_ret
    exact ⟨by rw [HFF.out]; rfl, B4.out⟩
set_option maxHeartbeats 2000000 in
theorem proofOf_c (sy st : Int) (A : Option Addr) (n cp : Nat) (rs : List Rule3) (kd : Int) (A1 : Option Addr) (n1 c1 : Nat) (xs : List Int) (A2 : Option Addr) (n2 c2 : Nat) (its : List It) (k : Int) (m : Nat) (w : World)
    (h : RdS w [sgX enc3 3 A n rs]) (h' : RdS w ([sgI A1 n1 xs] ++ sgII A2 n2 its)) (hn : n ≤ 1000000000) (hn' : n1 ≤ 1000000000 ∧ n2 ≤ 1000000000) (hi : ∀ t ∈ its, t.n ≤ 1000000000) :
    Calls Try.prog 79 #[.agg #[.int .i64 sy, .int .i64 st, .slice A n cp], .agg #[.int .i64 kd, .slice A1 n1 c1, .slice A2 n2 c2], .int .i64 k, .int .i64 m] w fun e w' => e = .returned (.bool (machB sy st rs && proofB kd xs (its.map It.xs) && decide (kd = k) && decide (n1 = m) && decide (n2 = 0))) ∧ Below w.heap.size w w' := by
  replace h : Rd3 w A n rs := h.head
  have HLx := Lib.hid (show xs.length = n1 from RdI.len h'.left.head)
  have HLi := Lib.hid (show (its.map It.xs).length = n2 by rw [List.length_map]; exact RdII.len h'.right)
  obtain ⟨w0, hw0⟩ : ∃ w0, (w.alloc (.cells #[i64 sy, i64 st, .slice A n cp] 32)).alloc (.cells #[i64 kd, .slice A1 n1 c1, .slice A2 n2 c2] 69) = w0 := ⟨_, rfl⟩
  have B0 := Lib.hid (show Below w.heap.size w w0 by rw [← hw0]; exact (below_size.alloc (Nat.le_refl _) _).alloc (by simp) _)
  have M0 := Lib.hid (show Blk w0 w.heap.size 32 #[i64 sy, i64 st, .slice A n cp] by rw [← hw0]; exact (Blk.new w _ _).alloc _)
  have P0 := Lib.hid (show Blk w0 (w.heap.size + 1) 69 #[i64 kd, .slice A1 n1 c1, .slice A2 n2 c2] by rw [← hw0]; have := Blk.new (w.alloc (.cells #[i64 sy, i64 st, .slice A n cp] 32)) 69 #[i64 kd, .slice A1 n1 c1, .slice A2 n2 c2]; rwa [World.size_alloc] at this)
  have X0 := Lib.hid (show RdI w0 A1 n1 xs from Rd.below h'.left.head B0.out)
  have H0 := Lib.hid (show Rd3 w0 A n rs from Rd.below h B0.out)
  have Y0 := Lib.hid (show RdS w0 ([sgI A1 n1 xs] ++ sgII A2 n2 its) from h'.below B0.out)
  have m0 := M0.out.cell 0; have m1 := M0.out.cell 1; have m2 := M0.out.cell 2; have p0 := P0.out.cell 0; have p1 := P0.out.cell 1; have p2 := P0.out.cell 2
  simp at m0 m1 m2 p0 p1 p2
  obtain ⟨u, hu⟩ : ∃ u, machB sy st rs = u := ⟨_, rfl⟩
  obtain ⟨v, hv⟩ : ∃ v, proofB kd xs (its.map It.xs) = v := ⟨_, rfl⟩
  have HV := Lib.hid hv
  rw [hu, hv]
  have ka : (kd == k) = decide (kd = k) := by by_cases h : kd = k <;> simp [h]
  have kb : ((n1 : Int) == (m : Int)) = decide (n1 = m) := by
    by_cases h : n1 = m
    · simp [h]
    · have h2 : ¬ (n1 : Int) = m := by omega
      simp [h, h2]
  have kc : ((n2 : Int) == 0) = decide (n2 = 0) := by by_cases h : n2 = 0 <;> simp [h]
  obtain ⟨a, ha⟩ : ∃ a, decide (kd = k) = a := ⟨_, rfl⟩
  obtain ⟨b, hb0⟩ : ∃ b, decide (n1 = m) = b := ⟨_, rfl⟩
  obtain ⟨c, hc0⟩ : ∃ c, decide (n2 = 0) = c := ⟨_, rfl⟩
  rw [ha] at ka ⊢; rw [hb0] at kb ⊢; rw [hc0] at kc ⊢
  clear h h' ha hb0 hc0 hv
  go_enter Try.func79, Try.ntmps79
  go_wp2_with fail
  refine (validMachine_c sy st A n cp rs u _ (by exact H0.out) hn hu).mono ?_
  rintro e w1 ⟨rfl, hb⟩
  have P1 := Lib.hid (P0.out.keep hb); have Y1 := Lib.hid (Y0.out.below hb); have B1 := Lib.hid (below_chain B0.out B0.out.size hb)
  clear hb hu hw0 m0 m1 m2 p0 p1 p2
  have p0 := P1.out.cell 0; have p1 := P1.out.cell 1; have p2 := P1.out.cell 2
  simp at p0 p1 p2
  cases u
  · go_wp2_with fail
    go_ret
    exact ⟨rfl, B1.out⟩
  go_wp2_with fail
  refine (iValidProof_c kd A1 n1 c1 xs A2 n2 c2 its _ (by exact Y1.out) hn' hi).mono ?_
  rw [HV.out]
  rintro e w2 ⟨rfl, hb⟩
  have P2 := Lib.hid (P1.out.keep hb); have B2 := Lib.hid (below_chain B1.out B1.out.size hb)
  clear hb p0 p1 p2
  have p0 := P2.out.cell 0; have p1 := P2.out.cell 1; have p2 := P2.out.cell 2
  simp at p0 p1 p2
  cases v
  · go_wp2_with fail
    go_ret
    exact ⟨rfl, B2.out⟩
  cases a
  · go_wp2_with fail
    go_ret
    exact ⟨rfl, B2.out⟩
  cases b
  · go_wp2_with fail
    go_ret
    exact ⟨rfl, B2.out⟩
  go_wp2_with fail
  go_ret
  exact ⟨rfl, B2.out⟩
set_option maxHeartbeats 4000000 in
set_option maxRecDepth 100000 in
theorem iCheckAutomaton_c (sy st : Int) (A : Option Addr) (n cp : Nat) (rs : List Rule3) (kd : Int) (A1 : Option Addr) (n1 c1 : Nat) (xs : List Int) (A2 : Option Addr) (n2 c2 : Nat) (its : List It) (w : World)
    (h : RdS w [sgX enc3 3 A n rs]) (h' : RdS w ([sgI A1 n1 xs] ++ sgII A2 n2 its)) (hn : n ≤ 1000000000) (hn' : n1 ≤ 1000000000 ∧ n2 ≤ 1000000000) (hi : ∀ t ∈ its, t.n ≤ 1000000000) (hnc : n1 ≤ c1) :
    Calls Try.prog 41 #[.agg #[.int .i64 sy, .int .i64 st, .slice A n cp], .agg #[.int .i64 kd, .slice A1 n1 c1, .slice A2 n2 c2]] w fun e w' => e = .returned (.bool (chkB sy st rs kd xs (its.map It.xs))) ∧ Below w.heap.size w w' := by
  replace h : Rd3 w A n rs := h.head
  have HLx := Lib.hid (show xs.length = n1 from RdI.len h'.left.head)
  have HLi := Lib.hid (show (its.map It.xs).length = n2 by rw [List.length_map]; exact RdII.len h'.right)
  obtain ⟨w0, hw0⟩ : ∃ w0, (w.alloc (.cells #[i64 sy, i64 st, .slice A n cp] 32)).alloc (.cells #[i64 kd, .slice A1 n1 c1, .slice A2 n2 c2] 69) = w0 := ⟨_, rfl⟩
  have B0 := Lib.hid (show Below w.heap.size w w0 by rw [← hw0]; exact (below_size.alloc (Nat.le_refl _) _).alloc (by simp) _)
  have M0 := Lib.hid (show Blk w0 w.heap.size 32 #[i64 sy, i64 st, .slice A n cp] by rw [← hw0]; exact (Blk.new w _ _).alloc _)
  have P0 := Lib.hid (show Blk w0 (w.heap.size + 1) 69 #[i64 kd, .slice A1 n1 c1, .slice A2 n2 c2] by rw [← hw0]; have := Blk.new (w.alloc (.cells #[i64 sy, i64 st, .slice A n cp] 32)) 69 #[i64 kd, .slice A1 n1 c1, .slice A2 n2 c2]; rwa [World.size_alloc] at this)
  have X0 := Lib.hid (show RdI w0 A1 n1 xs from Rd.below h'.left.head B0.out)
  have H0 := Lib.hid (show Rd3 w0 A n rs from Rd.below h B0.out)
  have Y0 := Lib.hid (show RdS w0 ([sgI A1 n1 xs] ++ sgII A2 n2 its) from h'.below B0.out)
  have m0 := M0.out.cell 0; have m1 := M0.out.cell 1; have m2 := M0.out.cell 2; have p0 := P0.out.cell 0; have p1 := P0.out.cell 1; have p2 := P0.out.cell 2
  simp at m0 m1 m2 p0 p1 p2
  obtain ⟨R, hR⟩ : ∃ R, chkB sy st rs kd xs (its.map It.xs) = R := ⟨_, rfl⟩
  rw [hR]
  have HPR := Lib.hid (fun h : R = true => chk_proof (hR.trans h))
  obtain ⟨v, hv⟩ : ∃ v, proofB kd xs (its.map It.xs) = v := ⟨_, rfl⟩
  have HV := Lib.hid hv
  obtain ⟨u, hu⟩ : ∃ u, machB sy st rs = u := ⟨_, rfl⟩
  have HU := Lib.hid hu
  have HR := Lib.hid (show R = (u && decide (kd = 7) && decide (n2 = 0) && decide (2 ≤ n1) && inB (xs.getD 0 0) 1 20 && inB (xs.getD 1 0) 1 20 && decide (((n1 - 2 : Nat) : Int) = (xs.getD 0 0 + xs.getD 1 0) * sy) &&
      avR sy st rs (xs.getD 0 0) ((xs.drop 2).take (xs.getD 0 0 * sy).toNat) (xs.getD 1 0) ((xs.drop 2).drop (xs.getD 0 0 * sy).toNat)) by
    rw [← hR, chkB, hu, HLi.out, HLx.out, List.length_drop, HLx.out])
  have HPO := Lib.hid (proofOf_c sy st A n cp rs kd A1 n1 c1 xs A2 n2 c2 its 7 n1 w0 (RdS.one H0.out) Y0.out hn hn' hi)
  rw [hu, hv] at HPO
  clear h h' hR hu hv
  by_cases k2 : 2 ≤ n1
  rotate_left
  · have kd2 : decide ((n1 : Int) < 2) = true := decide_eq_true (by omega)
    go_enter Try.func41, Try.ntmps41
    go_wp2_with fail
    go_ret
    exact ⟨by rw [HR.out, decide_eq_false k2]; simp, B0.out⟩
  have kd2 : decide ((n1 : Int) < 2) = false := decide_eq_false (by omega)
  obtain ⟨pq, hpq⟩ : ∃ pq, (u && v && decide (kd = 7) && decide (n1 = n1) && decide (n2 = 0)) = pq := ⟨_, rfl⟩
  rw [hpq] at HPO
  have HPQ := Lib.hid hpq
  clear hpq
  go_enter Try.func41, Try.ntmps41
  go_wp2_with fail
  refine HPO.out.mono ?_
  rintro e w1 ⟨rfl, hb⟩
  have M1 := Lib.hid (M0.out.keep hb); have P1 := Lib.hid (P0.out.keep hb); have X1 := Lib.hid (X0.out.below hb); have H1 := Lib.hid (show Rd3 w1 A n rs from Rd.below H0.out hb); have B1 := Lib.hid (below_chain B0.out B0.out.size hb)
  clear hb hw0 m0 m1 m2 p0 p1 p2 HPO
  cases pq
  · have HF := Lib.hid (show R = false by
      cases hR : R with
      | false => rfl
      | true =>
        have hv := HPR.out hR
        have h1 := HR.out
        have h2 := HPQ.out
        rw [HV.out] at hv; subst hv
        rw [hR] at h1
        revert h1 h2
        cases u <;> cases decide (kd = 7) <;> cases decide (n2 = 0) <;> simp)
    go_wp2_with fail
    go_ret
    exact ⟨by rw [HF.out]; rfl, B1.out⟩
  have m0 := M1.out.cell 0; have m1 := M1.out.cell 1; have m2 := M1.out.cell 2; have p1 := P1.out.cell 1
  simp at m0 m1 m2 p1
  obtain ⟨ad, x0, rfl, _, hx0, hc0⟩ := X1.out.at_ (k := 0) (by omega)
  obtain ⟨ad', x1, e1, _, hx1, hc1⟩ := X1.out.at_ (k := 1) (by omega)
  injection e1 with e1; subst e1
  have ea : ad.add 0 = ad := by simp [Addr.add]
  have eb : ad.add 1 = ⟨ad.block, ad.off + 1, none⟩ := by simp [Addr.add]
  rw [ea] at hc0; rw [eb] at hc1
  have hall : u = true ∧ kd = 7 ∧ n2 = 0 := by
    have h2 := HPQ.out
    simp only [Bool.and_eq_true, decide_eq_true_eq] at h2
    exact ⟨h2.1.1.1.1, h2.1.1.2, h2.2⟩
  have HM := Lib.hid (show machB sy st rs = true by rw [HU.out]; exact hall.1)
  have HR2 := Lib.hid (show R = (inB x0 1 20 && inB x1 1 20 && decide (((n1 - 2 : Nat) : Int) = (x0 + x1) * sy) &&
      avR sy st rs x0 ((xs.drop 2).take (x0 * sy).toNat) x1 ((xs.drop 2).drop (x0 * sy).toNat)) by rw [HR.out, hall.1, decide_eq_true hall.2.1, decide_eq_true hall.2.2, decide_eq_true k2, getD_at hx0, getD_at hx1]; rfl)
  clear HR HPR HPQ hall hx0 hx1 ea eb
  have hbd := machB_bd HM.out
  obtain ⟨i1, hi1⟩ : ∃ i, inB x0 1 20 = i := ⟨_, rfl⟩
  obtain ⟨i2, hi2⟩ : ∃ i, inB x1 1 20 = i := ⟨_, rfl⟩
  have HI1 := Lib.hid hi1; have HI2 := Lib.hid hi2
  have hc12 : n1 ≤ c1 := hnc
  by_cases k3 : 2 < n1
  rotate_left
  · have hn2' : n1 = 2 := by omega
    have HF := Lib.hid (show R = false by
      rw [HR2.out, hi1, hi2]
      cases i1
      · rfl
      · cases i2
        · rfl
        · have h0 := inB_t hi1; have h1 := inB_t hi2
          have e4 : 2 * 2 ≤ (x0 + x1) * sy := Int.mul_le_mul (by omega) hbd.1.1 (by omega) (by omega)
          rw [decide_eq_false (by omega)]; rfl)
    subst hn2'
    have hcc : c1 = 2 ∨ 2 < c1 := by omega
    cases i1
    · rcases hcc with rfl | hcc
      all_goals
        go_wp2_with fail
        go_quiet (fail)
        go_wp2_with fail
        go_quiet (first | (go_at_call 80; first | exact quiet_left (within_c _ _ _ _) | exact quiet_add_left (within_c _ _ _ _)) | (go_at_call 81; first | exact quiet_left (sizeI_c _ _ _ _ (by omega)) | exact quiet_add_left (sizeI_c _ _ _ _ (by omega))))
        go_wp2_with fail
        go_ret
        exact ⟨by rw [HF.out]; rfl, below_drewN (below_drewN B1.out _) _⟩
    cases i2
    · rcases hcc with rfl | hcc
      all_goals
        go_wp2_with fail
        go_quiet (fail)
        go_wp2_with fail
        go_quiet (first | (go_at_call 80; first | exact quiet_left (within_c _ _ _ _) | exact quiet_add_left (within_c _ _ _ _)) | (go_at_call 81; first | exact quiet_left (sizeI_c _ _ _ _ (by omega)) | exact quiet_add_left (sizeI_c _ _ _ _ (by omega))))
        go_wp2_with fail
        go_ret
        exact ⟨by rw [HF.out]; rfl, below_drewN (below_drewN B1.out _) _⟩
    have h0 := inB_t HI1.out; have h1 := inB_t HI2.out
    have e1 := mul_le2 (a := x0 + x1) (b := sy) (A := 40) (B := 6) (by omega) (by omega)
    have e4 : 2 * 2 ≤ (x0 + x1) * sy := Int.mul_le_mul (by omega) hbd.1.1 (by omega) (by omega)
    obtain ⟨qs, hqs⟩ := Int.eq_ofNat_of_zero_le e1.1
    have v1 : IntKind.i64.wrap (x0 + x1) = x0 + x1 := IntWalk.i64_in _ (by omega)
    have v2 : IntKind.i64.wrap ((x0 + x1) * sy) = (qs : Int) := (IntWalk.i64_in _ (by omega)).trans hqs
    have kq : ((0 : Int) != (qs : Int)) = true := by simp; omega
    have kq' : (((0 : Nat) : Int) != (qs : Int)) = true := kq
    clear e1 e4 hqs h0 h1
    rcases hcc with rfl | hcc
    all_goals
      go_wp2_with fail
      go_quiet (fail)
      go_wp2_with fail
      go_quiet (first | (go_at_call 80; first | exact quiet_left (within_c _ _ _ _) | exact quiet_add_left (within_c _ _ _ _)) | (go_at_call 81; first | exact quiet_left (sizeI_c _ _ _ _ (by omega)) | exact quiet_add_left (sizeI_c _ _ _ _ (by omega))))
      go_wp2_with fail
      go_ret
      exact ⟨by rw [HF.out]; rfl, below_drewN (below_drewN B1.out _) _⟩
  have h2c : 2 < c1 := by omega
  cases i1
  · have HF := Lib.hid (show R = false by rw [HR2.out, hi1]; rfl)
    go_wp2_with fail
    go_quiet (fail)
    go_wp2_with fail
    go_quiet (first | (go_at_call 80; first | exact quiet_left (within_c _ _ _ _) | exact quiet_add_left (within_c _ _ _ _)))
    go_wp2_with fail
    go_ret
    exact ⟨by rw [HF.out]; rfl, below_drewN (below_drewN B1.out _) _⟩
  cases i2
  · have HF := Lib.hid (show R = false by rw [HR2.out, hi1, hi2]; rfl)
    go_wp2_with fail
    go_quiet (fail)
    go_wp2_with fail
    go_quiet (first | (go_at_call 80; first | exact quiet_left (within_c _ _ _ _) | exact quiet_add_left (within_c _ _ _ _)))
    go_wp2_with fail
    go_ret
    exact ⟨by rw [HF.out]; rfl, below_drewN (below_drewN B1.out _) _⟩
  have hx0 := inB_t HI1.out; have hx1 := inB_t HI2.out
  have e1 := mul_le2 (a := x0 + x1) (b := sy) (A := 40) (B := 6) (by omega) (by omega)
  have e2 := mul_le2 (a := x0) (b := sy) (A := 20) (B := 6) (by omega) (by omega)
  have e3 : (x0 + x1) * sy = x0 * sy + x1 * sy := Int.add_mul _ _ _
  have e4 : 1 * 2 ≤ x1 * sy := Int.mul_le_mul hx1.1 hbd.1.1 (by omega) (by omega)
  have HR3 := Lib.hid (show R = (decide (((n1 - 2 : Nat) : Int) = (x0 + x1) * sy) && avR sy st rs x0 ((xs.drop 2).take (x0 * sy).toNat) x1 ((xs.drop 2).drop (x0 * sy).toNat)) by rw [HR2.out, HI1.out, HI2.out]; rfl)
  obtain ⟨qa, hqa⟩ := Int.eq_ofNat_of_zero_le e2.1
  obtain ⟨qs, hqs⟩ := Int.eq_ofNat_of_zero_le e1.1
  have v1 : IntKind.i64.wrap (x0 + x1) = x0 + x1 := IntWalk.i64_in _ (by omega)
  have v2 : IntKind.i64.wrap ((x0 + x1) * sy) = (qs : Int) := (IntWalk.i64_in _ (by omega)).trans hqs
  have v3 : IntKind.i64.wrap (x0 * sy) = (qa : Int) := (IntWalk.i64_in _ (by omega)).trans hqa
  have hqaqs : qa < qs := by omega
  have HE := Lib.hid (And.intro hqa hqs)
  clear HR2 e1 e2 e3 e4 hqa hqs hx0 hx1 hbd
  by_cases k4 : n1 - 2 = qs
  rotate_left
  · have HF := Lib.hid (show R = false by rw [HR3.out, HE.out.2, decide_eq_false (by omega)]; rfl)
    have kq : (((n1 - 2 : Nat) : Int) != (qs : Int)) = true := by simp; omega
    go_wp2_with fail
    go_quiet (fail)
    go_wp2_with fail
    go_quiet (first | (go_at_call 80; first | exact quiet_left (within_c _ _ _ _) | exact quiet_add_left (within_c _ _ _ _)) | (go_at_call 81; first | exact quiet_left (sizeI_c _ _ _ _ (by omega)) | exact quiet_add_left (sizeI_c _ _ _ _ (by omega))))
    go_wp2_with fail
    go_ret
    exact ⟨by rw [HF.out]; rfl, below_drewN (below_drewN B1.out _) _⟩
  have HF := Lib.hid (show R = avR sy st rs x0 ((xs.drop 2).take qa) x1 ((xs.drop 2).drop qa) by rw [HR3.out, HE.out.2, HE.out.1, decide_eq_true (by omega)]; simp)
  have kq : (((n1 - 2 : Nat) : Int) != (qs : Int)) = false := by simp; omega
  go_wp2_with fail
  go_quiet (fail)
  obtain ⟨wd, hwd⟩ : ∃ wd, w1.drewN nq = wd := ⟨_, rfl⟩
  rw [hwd]
  have ED := Lib.hid (show Below w1.heap.size w1 wd by rw [← hwd]; exact below_drewN below_size _)
  clear hwd
  have m0 := keepc ED.out m0
  go_wp2_with fail
  go_quiet (first | (go_at_call 80; first | exact quiet_left (within_c _ _ _ _) | exact quiet_add_left (within_c _ _ _ _)) | (go_at_call 81; first | exact quiet_left (sizeI_c _ _ _ _ (by omega)) | exact quiet_add_left (sizeI_c _ _ _ _ (by omega))))
  obtain ⟨we, hwe⟩ : ∃ we, wd.drewN nq = we := ⟨_, rfl⟩
  rw [hwe]
  have EE := Lib.hid (show Below w1.heap.size w1 we by rw [← hwe]; exact below_drewN ED.out _)
  clear hwe
  go_wp2_with fail
  have ME := Lib.hid (M1.out.keep EE.out); have XE := Lib.hid (X1.out.below EE.out); have HE3 := Lib.hid (show Rd3 we A n rs from Rd.below H1.out EE.out)
  have a0 := ME.out.cell 0; have a1 := ME.out.cell 1; have a2 := ME.out.cell 2
  simp at a0 a1 a2
  have y0 := Ext.cell a0; have y1 := Ext.cell a1; have y2 := Ext.cell a2
  have ea2 : ad.add 2 = ⟨ad.block, ad.off + 2, none⟩ := by simp [Addr.add]
  have ea3 : (ad.add 2).add qa = ⟨ad.block, ad.off + 2 + qa, none⟩ := by simp [Addr.add]
  have DA := Lib.hid (show RdI we (some ⟨ad.block, ad.off + 2, none⟩) qa ((xs.drop 2).take qa) by
    have := (XE.out.drop (k := 2) (by omega)).take (k := qa) (by omega)
    rw [ea2] at this; exact this)
  have DB := Lib.hid (show RdI we (some ⟨ad.block, ad.off + 2 + qa, none⟩) (qs - qa) ((xs.drop 2).drop qa) by
    have := (XE.out.drop (k := 2) (by omega)).drop (k := qa) (by omega)
    rw [ea3, k4] at this; exact this)
  have HIA := Lib.hid (iAvoidsHalting_c sy st A n cp rs x0 (some ⟨ad.block, ad.off + 2, none⟩) qa (c1 - 2) ((xs.drop 2).take qa) x1 (some ⟨ad.block, ad.off + 2 + qa, none⟩) (qs - qa) (c1 - 2 - qa) ((xs.drop 2).drop qa) we.drew (RdS.one (Rd.drew HE3.out)) (Rd.drew DA.out) (Rd.drew DB.out) hn (by omega) (by omega))
  rw [← HF.out] at HIA
  clear ea2 ea3 m0 m1 m2 p1 hc0 hc1
  refine Mix.wp_region_mix [3, 0, 0, 0, 0, 3, 0, 0, 0, 0, 0, 0, 0, 3, 0, 0, 0, 1, 0] (fun w' => ∃ x : Ext we, w' = x.w) (by kernel_rfl) (by kernel_rfl) (InExt.drew _) ?_
  repeat (first | (refine Mix.wpMix_read (by rfl) ?_; go_big_quiet_step (fail); refine wpQuiet_nil ?_) | (refine Mix.wpMix_pure (by rfl) ?_; go_big_quiet_step (fail); refine wpQuiet_nil ?_))
  refine Mix.wpMix_build (by rfl) _ _ rfl (.agg #[.int .i64 x0, .slice (some ⟨ad.block, ad.off + 2, none⟩) qa (c1 - 2)]) (fun w => by simp [go_sem]) ?_
  simp only [Act.put, List.setIfInBounds_toArray, List.set_cons_succ, List.set_cons_zero]
  repeat (first | (refine Mix.wpMix_read (by rfl) ?_; go_big_quiet_step (fail); refine wpQuiet_nil ?_) | (refine Mix.wpMix_pure (by rfl) ?_; go_big_quiet_step (fail); refine wpQuiet_nil ?_))
  refine Mix.wpMix_build (by rfl) _ _ rfl (.agg #[.int .i64 x1, .slice (some ⟨ad.block, ad.off + 2 + qa, none⟩) (qs - qa) (c1 - 2 - qa)]) (fun w => by simp [go_sem]) ?_
  simp only [Act.put, List.setIfInBounds_toArray, List.set_cons_succ, List.set_cons_zero]
  repeat (first | (refine Mix.wpMix_read (by rfl) ?_; go_big_quiet_step (fail); refine wpQuiet_nil ?_) | (refine Mix.wpMix_pure (by rfl) ?_; go_big_quiet_step (fail); refine wpQuiet_nil ?_))
  refine Mix.wpMix_chg (by rfl) (fun K hK => ?_)
  go_wp2_with fail
  refine HIA.out.mono ?_
  rintro e wf ⟨rfl, hb⟩
  have em := below_of_drew hb
  have BF := Lib.hid (below_chain B1.out B1.out.size (below_chain EE.out EE.out.size em))
  go_wp2_with fail
  refine hK _ _ ⟨⟨_, em⟩, rfl⟩ ?_
  clear hK K
  repeat (first | (refine Mix.wpMix_read (by rfl) ?_; go_big_quiet_step (fail); refine wpQuiet_nil ?_) | (refine Mix.wpMix_pure (by rfl) ?_; go_big_quiet_step (fail); refine wpQuiet_nil ?_))
  (refine Mix.wpMix_nil ?_; try simp only [Exit.then])
  go_wp2_with fail
  go_ret
  exact ⟨rfl, BF.out⟩
end Go.Proofs.Ytfahdgmlhinabaa
