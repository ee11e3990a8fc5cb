/-
  Contracts of chapter 26: the nodes to which a node leads back.
-/
import Derived.Test.YtdofcidnomjcdaaC26u
import Derived.Test.YtdofcidnomjcdaaMixF
import Derived.Deep.DeepCutAuto
namespace Go.Proofs.Ytdofcidnomjcdaa
open Go.RowKit

def addNew (acc : List (List Int)) (y : List Int) : List (List Int) := if y ∈ acc then acc else acc ++ [y]
def backOf (x : List Int) (sy : Int) (k : Nat) (r : Rule3) : Option (List Int) := if r = noneR then none else segBack x ((k : Int) / sy) ((k : Int) % sy) r
def segGo (x : List Int) (sy : Int) : Nat → List Rule3 → List (List Int) → List (List Int)
  | _, [], acc => acc
  | k, r :: l, acc => segGo x sy (k + 1) l (match backOf x sy k r with | none => acc | some y => addNew acc y)
def segR (sy st : Int) (rs : List Rule3) (x : List Int) : List (List Int) × Int := if machB sy st rs then (if nodeB sy st x then (segGo x sy 0 rs [], 0) else ([], 2)) else ([], 1)
theorem segBack_len {x y : List Int} {p a : Int} {r : Rule3} (h : segBack x p a r = some y) : y.length = x.length := by
  unfold segBack at h
  repeat' split at h
  all_goals first | (cases h; done) | (injection h with h; rw [← h, segNode_len])
theorem backOf_len {x y : List Int} {sy : Int} {k : Nat} {r : Rule3} (h : backOf x sy k r = some y) : y.length = x.length := by
  unfold backOf at h
  split at h
  · cases h
  · exact segBack_len h
theorem mach_rule {sy st : Int} {rs : List Rule3} {k : Nat} {a b c : Int} (hm : machB sy st rs = true) (h : rs[k]? = some (a, b, c)) : (a, b, c) = noneR ∨ ((a, b, c) ≠ noneR ∧ (0 ≤ a ∧ a ≤ sy - 1) ∧ (b = 1 ∨ b = -1) ∧ (0 ≤ c ∧ c ≤ st - 1)) := by
  simp only [machB, Bool.and_eq_true, List.all_eq_true] at hm
  have := hm.2 _ (List.mem_of_getElem? h)
  by_cases hn : (a, b, c) = noneR
  · exact .inl hn
  · simp only [ruleB, hn, decide_false, Bool.false_or, Bool.and_eq_true, inB_iff, Bool.or_eq_true, beq_iff_eq] at this
    exact .inr ⟨hn, this.1.1, this.1.2, this.2⟩
set_option maxHeartbeats 4000000 in
set_option maxRecDepth 100000 in
theorem l26Backs_c (g : Nat) (sy st : Int) (A : Option Addr) (nr cp : Nat) (rs : List Rule3) (A' : Option Addr) (n c : Nat) (x : List Int) (w : World) (h : MachP w g sy st A nr cp rs) (hx : RdI w A' n x) (hm : machB sy st rs = true) (hnr : nr ≤ 10000) (hok : NodeOk sy st x) :
    Calls Try.prog 56 #[.pointer (some ⟨g, 0, none⟩), .slice A' n c] w (IIOut (segGo x sy 0 rs []) w) := by
  have HL := Lib.hid h.rd.len
  have HLx := Lib.hid hx.len
  have hlen := hok.len.2
  rw [hx.len] at hlen
  have H := Lib.hid h; have HX := Lib.hid hx; have HM := Lib.hid hm; have HK := Lib.hid hok; clear h hx hok
  have hsy := (machB_bd hm).1
  clear hm
  obtain ⟨R, hR⟩ : ∃ R, segGo x sy 0 rs [] = R := ⟨_, rfl⟩
  rw [hR]
  have HR := Lib.hid hR; clear hR
  go_enter Try.func56, Try.ntmps56
  go_wp2_with fail
  go_loopw [5, 6] (fun sv iv wr => ∃ (k m : Nat) (O : Option Addr) (oc : Nat) (its : List It), k ≤ nr ∧ iv = .int .i64 k ∧ sv = .slice O m oc ∧ m ≤ k ∧ Hid (its.length = m) ∧ Hid (R = segGo x sy k (rs.drop k) (its.map It.xs)) ∧ Hid (∀ t ∈ its, t.n ≤ 11) ∧
    Hid (OwnS wr w.heap.size 25 1 O m oc (its.map hdI) (its.map bodyI)) ∧ Below w.heap.size w wr) (fun _ iv _ => nr - (intOf iv).toNat)
  case atStart => exact ⟨0, 0, _, _, [], by omega, rfl, rfl, by omega, rfl, by rw [← HR.out]; rfl, by unfold Hid; simp, OwnS.nil (Own.litK (Nat.le_refl _)), below_size.alloc (Nat.le_refl _) _⟩
  case round =>
    obtain ⟨k, m, O, oc, its, hk, rfl, rfl, hmk, hpl, hr, hp1, hO, hb⟩ := hrel
    have HB := Lib.hid hb
    have hP := H.out.below hb
    have h2 := hP.c2
    have hwz := hb.size
    by_cases hlt : k < nr
    · have hkl : k < rs.length := by rw [HL.out]; exact hlt
      obtain ⟨r, hrk⟩ : ∃ r, rs[k]? = some r := ⟨_, List.getElem?_eq_getElem hkl⟩
      obtain ⟨a, b, d⟩ := r
      have HS := Lib.hid (show R = segGo x sy (k + 1) (rs.drop (k + 1)) (match backOf x sy k (a, b, d) with | none => its.map It.xs | some y => addNew (its.map It.xs) y) by rw [hr.out, drop_at hrk, segGo])
      obtain ⟨o, ho⟩ : ∃ o, backOf x sy k (a, b, d) = o := ⟨_, rfl⟩
      have HO := Lib.hid ho
      have HP := Lib.hid hP; have HRK := Lib.hid hrk
      rw [ho] at HS
      have hc := l26Back_c g sy st A nr cp rs A' n c x k a b d wr HP.out (HX.out.below hb) hsy hnr HRK.out HK.out (mach_rule HM.out HRK.out)
      rw [show (if (a, b, d) = noneR then none else segBack x ((k : Int) / sy) ((k : Int) % sy) (a, b, d)) = o from ho] at hc
      have HC := Lib.hid hc
      clear ho hb hr hP hrk hc
      go_wp2_with fail
      refine HC.out.mono ?_
      rintro e w1 ⟨A1, n1, c1, rfl, hy, hb1⟩
      have B1 := Lib.hid (below_chain HB.out hwz hb1)
      have E1 := Lib.hid hb1
      have HY := Lib.hid hy
      have hz1 := hb1.size
      clear hb1 hy
      cases o with
      | none =>
        go_wp2_with fail
        go_roundw
        case rel => exact ⟨k + 1, m, O, oc, its, by omega, by go_num, rfl, by omega, hpl, HS.out, hp1, hO.out.keep E1.out, B1.out⟩
        case measure => simp [intOf]; omega
      | some y =>
        obtain ⟨ao, rfl, rfl, hw⟩ := HY.out y rfl
        have hyl : y.length ≤ 11 := by rw [backOf_len HO.out, HLx.out]; exact hlen
        have HW := Lib.hid hw
        have O1 := Lib.hid (hO.out.keep E1.out)
        obtain ⟨p, hp⟩ : ∃ p, decide (y ∈ its.map It.xs) = p := ⟨_, rfl⟩
        have HN := Lib.hid (show decide (rowAt y 0 (its.map It.xs) < 0) = !p by rw [rowAt_lt, hp])
        have HP' := Lib.hid hp
        clear hw hp HY
        go_wp2_with fail
        refine (l10Row_c O m oc its (some ao) _ _ y _ O1.out.rdII HW.out.rdI (by omega) (fun t ht => by have := hp1.out t ht; omega)).mono ?_
        rintro e w2 ⟨rfl, hq⟩
        have E2 := Lib.hid (hq.below w1.heap.size)
        generalize rowAt y 0 (its.map It.xs) = E at *
        have hz2 := E2.out.size
        have kE := HN.out
        clear hq
        cases p
        · have HS2 := Lib.hid (show R = segGo x sy (k + 1) (rs.drop (k + 1)) (its.map It.xs ++ [y]) by rw [HS.out]; simp only [addNew]; rw [if_neg (of_decide_eq_false HP'.out)])
          simp only [Bool.not_false] at kE
          have O2 := Lib.hid (O1.out.keep E2.out)
          have W2 := Lib.hid (HW.out.below E2.out)
          go_wp2_with (at_builtin; refine wp_app1 (by rfl) _ _ 27 25 (.slice none 0 0) 24 (by rfl) Try.underlying27 info_I64S rfl w.heap.size O m oc (its.map hdI) (by rfl) (by exact O2.out.own.alloc _) w2.heap.size (.slice (some ao) y.length c1) (by rfl) (by exact new_cell _ _ _ 0) rfl (by omega) (by omega) (by simp; omega) ?_; intro g' cap w3 own3 hb3 hk3 hg3 hz3)
          have E3 := Lib.hid (below_chain (below_chain E1.out hz1 E2.out) (by omega) (below_size.alloc (Nat.le_refl _) (.cells #[.slice (some ao) y.length c1] 25)))
          have O3 := Lib.hid (hO.out.push (s := sgI (some ao) y.length y) (by omega) E3.out (((W2.out.wider (Nat.le_refl _) hz2).alloc _).wider (Nat.le_refl _) (by simp)) own3 hk3 hg3 hz3)
          have B3 := Lib.hid (HB.out.trans ((E3.out.mono hwz).trans hb3))
          clear own3 hb3 hk3 hg3
          go_wp2_with fail
          go_roundw
          case rel =>
            refine ⟨k + 1, m + 1, some ⟨g', 0, none⟩, cap, its ++ [⟨some ao, y.length, c1, y⟩], by omega, by go_num, rfl, by omega, by unfold Hid; rw [List.length_append, hpl.out]; rfl, by unfold Hid; rw [HS2.out]; simp, ?_, O3.out.snocII, B3.out⟩
            intro t ht
            rcases List.mem_append.1 ht with ht | ht
            · exact hp1.out t ht
            · rw [List.mem_singleton] at ht; subst ht; exact hyl
          case measure => simp [intOf]; omega
        · have HS2 := Lib.hid (show R = segGo x sy (k + 1) (rs.drop (k + 1)) (its.map It.xs) by rw [HS.out]; simp only [addNew]; rw [if_pos (of_decide_eq_true HP'.out)])
          simp only [Bool.not_true] at kE
          go_wp2_with fail
          go_roundw
          case rel => exact ⟨k + 1, m, O, oc, its, by omega, by go_num, rfl, by omega, hpl, HS2.out, hp1, O1.out.keep E2.out, below_chain B1.out (by omega) E2.out⟩
          case measure => simp [intOf]; omega
    · have HS := Lib.hid (show its.map It.xs = R by rw [hr.out, List.drop_eq_nil_of_le (by rw [HL.out]; omega), segGo])
      clear hb hr hP
      go_wp2_with fail
      go_ret
      refine ⟨O, m, oc, its, rfl, hO.out.wrII, ⟨by omega, fun t ht => by have := hp1.out t ht; omega, ?_, HS.out⟩, HB.out⟩
      have := sumN_bd its 11 hp1.out
      rw [hpl.out] at this; omega
/-- behind 'y, ok := segmentBefore(..)': y lies in a block of its own -/
def SegCut (o : Option (List Int)) (t : TypeId) (w : World) (pv bv : Value) (wx : World) : Prop :=
  ∃ g A n c, pv = .pointer (some ⟨g, 0, none⟩) ∧ bv = .bool o.isSome ∧ Blk wx g t #[.slice A n c] ∧ (∀ y, o = some y → ∃ ao, A = some ao ∧ n = y.length ∧ Wr wx w.heap.size wx.heap.size (some ao) n (y.map i64)) ∧ Below w.heap.size w wx
theorem segCut {o : Option (List Int)} {t : TypeId} {w wa wb : World} {g : Nat} {A : Option Addr} {n c : Nat} {v0 : Value} (hb : Blk wb g t #[v0]) (hB : Below w.heap.size w wb) (hg : w.heap.size ≤ g)
    (hy : ∀ y, o = some y → ∃ ao, A = some ao ∧ n = y.length ∧ Wr wb w.heap.size wb.heap.size (some ao) n (y.map i64) ∧ ao.block ≠ g) (ha : wa = wb.setCell ⟨g, 0, none⟩ (.slice A n c)) :
    SegCut o t w (.pointer (some ⟨g, 0, none⟩)) (.bool o.isSome) wa := by
  subst ha
  refine ⟨g, A, n, c, rfl, rfl, by simpa using hb.set_ 0 (.slice A n c), fun y hyo => ?_, hB.setCell hg _⟩
  obtain ⟨ao, e1, e2, hw, hne⟩ := hy y hyo
  refine ⟨ao, e1, e2, ?_⟩
  have h1 := Wr.move (w' := wb.setCell ⟨g, 0, none⟩ (.slice A n c)) hw (fun ad hn e => by injection e with e; subst e; exact Below.heap_setCell wb _ _ _ hne) (by simp) (Nat.le_refl _)
  exact h1.wider (Nat.le_refl _) (by simp)
theorem SegOut.ne {o : Option (List Int)} {A : Option Addr} {n : Nat} {w wb : World} {g lo : Nat} (hg : g < lo ∨ wb.heap.size ≤ g) (h : ∀ y, o = some y → ∃ ao, A = some ao ∧ n = y.length ∧ Wr wb lo wb.heap.size (some ao) n (y.map i64)) (h0 : ∀ y, o = some y → 0 < y.length) (hlo : w.heap.size ≤ lo) :
    ∀ y, o = some y → ∃ ao, A = some ao ∧ n = y.length ∧ Wr wb w.heap.size wb.heap.size (some ao) n (y.map i64) ∧ ao.block ≠ g := by
  intro y hy
  obtain ⟨ao, e1, e2, hw⟩ := h y hy
  refine ⟨ao, e1, e2, hw.wider hlo (Nat.le_refl _), ?_⟩
  have := h0 y hy
  obtain ⟨a1, v1, ea, h1, h2, _⟩ := hw.at_ (k := 0) (by omega)
  injection ea with ea; subst ea
  omega
theorem SegOut.after {o : Option (List Int)} {A : Option Addr} {n : Nat} {wb wa : World} {g lo : Nat} (hb : Below wb.heap.size wb wa) (h : ∀ y, o = some y → ∃ ao, A = some ao ∧ n = y.length ∧ Wr wb lo wb.heap.size (some ao) n (y.map i64)) (h0 : ∀ y, o = some y → 0 < y.length) (hg : wb.heap.size ≤ g) :
    ∀ y, o = some y → ∃ ao, A = some ao ∧ n = y.length ∧ Wr wa lo wa.heap.size (some ao) n (y.map i64) ∧ ao.block ≠ g := by
  intro y hy
  obtain ⟨ao, e1, e2, hw⟩ := h y hy
  refine ⟨ao, e1, e2, (hw.below hb).wider (Nat.le_refl _) hb.size, ?_⟩
  have := h0 y hy
  obtain ⟨a1, v1, ea, h1, h2, _⟩ := hw.at_ (k := 0) (by omega)
  injection ea with ea; subst ea
  omega
set_option maxHeartbeats 4000000 in
set_option maxRecDepth 100000 in
theorem segmentPredecessors_c (sy st : Int) (A : Option Addr) (nr cp : Nat) (rs : List Rule3) (A' : Option Addr) (n c : Nat) (x : List Int) (w : World) (h : Rd3 w A nr rs) (hx : RdI w A' n x) (hm : machB sy st rs = true) (hnr : nr ≤ 10000) (hok : NodeOk sy st x) :
    Calls Try.prog 60 #[.agg #[.int .i64 sy, .int .i64 st, .slice A nr cp], .slice A' n c] w (IIOut (segGo x sy 0 rs []) w) := by
  have HL := Lib.hid h.len
  have HLx := Lib.hid hx.len
  have hlen := hok.len
  rw [hx.len] at hlen
  obtain ⟨w0, hw0⟩ : ∃ w0, w.alloc (.cells #[i64 sy, i64 st, .slice A nr cp] 32) = w0 := ⟨_, rfl⟩
  have H := Lib.hid (show MachP w0 w.heap.size sy st A nr cp rs by rw [← hw0]; exact ⟨new_cell _ _ _ 0, new_cell _ _ _ 1, new_cell _ _ _ 2, h.alloc _⟩)
  have B00 := Lib.hid (show Below w.heap.size w w0 by rw [← hw0]; exact below_size.alloc (Nat.le_refl _) _)
  have hz0 : w.heap.size < w0.heap.size := by rw [← hw0]; simp
  have HX := Lib.hid (hx.below B00.out); have HM := Lib.hid hm; have HK := Lib.hid hok; clear h hx hok
  have hsy := (machB_bd hm).1
  clear hm
  obtain ⟨R, hR⟩ : ∃ R, segGo x sy 0 rs [] = R := ⟨_, rfl⟩
  rw [hR]
  have HR := Lib.hid hR; clear hR
  have m2 := (H.out.below (below_size.alloc (Nat.le_refl _) (.cells #[] 25))).c2
  go_enter Try.func60, Try.ntmps60
  go_wp2_with fail
  clear m2
  go_loopw [5, 14] (fun sv iv wr => ∃ (k m : Nat) (O : Option Addr) (oc : Nat) (its : List It), k ≤ nr ∧ iv = .int .i64 k ∧ sv = .slice O m oc ∧ m ≤ k ∧ Hid (its.length = m) ∧ Hid (R = segGo x sy k (rs.drop k) (its.map It.xs)) ∧ Hid (∀ t ∈ its, t.n ≤ 11) ∧
    Hid (OwnS wr w0.heap.size 25 1 O m oc (its.map hdI) (its.map bodyI)) ∧ Below w0.heap.size w0 wr) (fun _ iv _ => nr - (intOf iv).toNat)
  case atStart => exact ⟨0, 0, _, _, [], by omega, rfl, rfl, by omega, rfl, by rw [← HR.out]; rfl, by unfold Hid; simp, OwnS.nil (Own.litK (Nat.le_refl _)), below_size.alloc (Nat.le_refl _) _⟩
  case round =>
    clear hw0
    obtain ⟨k, m, O, oc, its, hk, rfl, rfl, hmk, hpl, hr, hp1, hO, hb⟩ := hrel
    have HB := Lib.hid hb
    have hwz := hb.size
    by_cases hlt : k < nr
    · obtain ⟨ad, r, rfl, hab, hrk, hc0, hc1, hc2⟩ := (H.out.below hb).rd.at_ hlt
      obtain ⟨a, b, d⟩ := r
      have HRU := Lib.hid (mach_rule HM.out hrk)
      have HS := Lib.hid (show R = segGo x sy (k + 1) (rs.drop (k + 1)) (match backOf x sy k (a, b, d) with | none => its.map It.xs | some y => addNew (its.map It.xs) y) by rw [hr.out, drop_at hrk, segGo])
      clear hb hr hrk
      obtain ⟨o, ho⟩ : ∃ o, decide ((a, b, d) = noneR) = o := ⟨_, rfl⟩
      go_wp2_with fail
      refine (isRule_c _ _ _ _).mono ?_
      rintro e w2 ⟨rfl, hb⟩
      rw [ho]
      have em := up1 hb
      have r0 : w2.cell? ⟨wr.heap.size, 0, none⟩ = some (i64 a) := keepc hb (by exact new_cell _ _ _ 0)
      have r1 : w2.cell? ⟨wr.heap.size, 1, none⟩ = some (i64 b) := keepc hb (by exact new_cell _ _ _ 1)
      have r2 : w2.cell? ⟨wr.heap.size, 2, none⟩ = some (i64 d) := keepc hb (by exact new_cell _ _ _ 2)
      have E2 := Lib.hid (below_chain HB.out hwz em)
      have O2 := Lib.hid (hO.out.keep em)
      have hw2 := em.size
      clear hb em hc0 hc1 hc2
      cases o
      · have hnon := of_decide_eq_false ho
        obtain ⟨_, hmv, _⟩ := (HRU.out.resolve_left hnon).2
        obtain ⟨o, hob⟩ : ∃ o, backOf x sy k (a, b, d) = o := ⟨_, rfl⟩
        have HO := Lib.hid hob
        rw [hob] at HS
        have HSB := Lib.hid (show segBack x ((k : Int) / sy) ((k : Int) % sy) (a, b, d) = o by rw [← hob, backOf, if_neg hnon])
        have HMV := Lib.hid hmv
        have HX2 := Lib.hid (HX.out.below E2.out)
        have M2 := Lib.hid (H.out.below E2.out)
        have m0 := M2.out.c0
        clear ho hob hnon hmv
        have v1 : wrap64 ((k : Int) / sy) = (k : Int) / sy := by unfold wrap64; have := div_bd hsy hlt hnr; omega
        go_wp2_with fail
        go_cut [8, 9] (fun pv bv wx => SegCut o 25 w2 pv bv wx)
        case first =>
          have x0 := Ext.cell m0; have x1 := Ext.cell r0; have x2 := Ext.cell r1; have x3 := Ext.cell r2
          refine Mix.wp_region_mixF 14 [0, 0, 0, 3, 0, 0, 0, 3, 0, 3, 1, 0, 0, 0, 1, 2, 0] (fun w' => ∃ x : Ext w2, w' = x.w) (by kernel_rfl) (by kernel_rfl) (InExt.drew _) _ _ (by rfl) ?_
          simp only [List.take_succ_cons, List.take_zero, List.drop_succ_cons, List.drop_zero]
          refine Mix.wpF_0 ?_
          (refine Mix.wpMix_pure (by rfl) ?_; go_big_quiet_step (fail); refine wpQuiet_nil ?_)
          refine Mix.wpMix_nil ?_
          refine Mix.wpF_0 ?_
          (refine Mix.wpMix_pure (by rfl) ?_; go_big_quiet_step (fail); refine wpQuiet_nil ?_)
          refine Mix.wpMix_nil ?_
          refine Mix.wpF_0 ?_
          (refine Mix.wpMix_pure (by rfl) ?_; go_big_quiet_step (fail); refine wpQuiet_nil ?_)
          refine Mix.wpMix_nil ?_
          refine Mix.wpF_3 ?_
          (refine Mix.wpMix_read (by rfl) ?_; go_big_quiet_step (fail); refine wpQuiet_nil ?_)
          refine Mix.wpMix_nil ?_
          refine Mix.wpF_0 ?_
          (refine Mix.wpMix_pure (by rfl) ?_; go_big_quiet_step (fail); refine wpQuiet_nil ?_)
          refine Mix.wpMix_nil ?_
          refine Mix.wpF_0 ?_
          (refine Mix.wpMix_pure (by rfl) ?_; go_big_quiet_step (fail); refine wpQuiet_nil ?_)
          refine Mix.wpMix_nil ?_
          refine Mix.wpF_0 ?_
          (refine Mix.wpMix_pure (by rfl) ?_; go_big_quiet_step (fail); refine wpQuiet_nil ?_)
          refine Mix.wpMix_nil ?_
          refine Mix.wpF_3 ?_
          (refine Mix.wpMix_read (by rfl) ?_; go_big_quiet_step (fail); refine wpQuiet_nil ?_)
          refine Mix.wpMix_nil ?_
          refine Mix.wpF_0 ?_
          (refine Mix.wpMix_pure (by rfl) ?_; go_big_quiet_step (fail); refine wpQuiet_nil ?_)
          refine Mix.wpMix_nil ?_
          refine Mix.wpF_3 ?_
          (refine Mix.wpMix_read (by rfl) ?_; go_big_quiet_step (fail); refine wpQuiet_nil ?_)
          refine Mix.wpMix_nil ?_
          refine Mix.wpF_1 ?_ ?_
          · simp only [List.cons_append, List.nil_append]
            refine Mix.wpMix_chg (by rfl) (fun K hK => ?_)
            go_wp2_with fail
            refine hK _ _ ⟨⟨_, below_drew (below_size.alloc (Nat.le_refl _) _)⟩, rfl⟩ ?_
            clear hK K
            obtain ⟨wa, hwa⟩ : ∃ wa, (w2.alloc (.cells #[.slice none 0 0] 25)).drew = wa := ⟨_, rfl⟩
            rw [hwa]
            have EA : Below w2.heap.size w2 wa := by rw [← hwa]; exact below_drew (below_size.alloc (Nat.le_refl _) _)
            have ZA := Lib.hid (show Blk wa w2.heap.size 25 #[.slice none 0 0] by rw [← hwa]; exact (Blk.new w2 _ _).drew)
            have hza : w2.heap.size < wa.heap.size := ZA.out.lt
            clear hwa
            refine Mix.wpMix_chg (by rfl) (fun K hK => ?_)
            go_wp2_with fail
            refine (segmentBefore_c sy st A' n c x ((k : Int) / sy) ((k : Int) % sy) a b d _ (by exact HX2.out.below EA) HK.out HMV.out).mono ?_
            rw [HSB.out]
            rintro e wb ⟨A1, n1, c1, rfl, hy, hb⟩
            have em := below_chain EA EA.size hb
            have ZB := Lib.hid (ZA.out.keep hb)
            have HY := Lib.hid hy
            have EB := Lib.hid em
            clear hb hy EA
            have z0 := ZB.out.cell 0; have g0 := ZB.out.frozen 0
            simp at z0
            go_wp2_with fail
            refine hK _ _ ⟨⟨_, em⟩, rfl⟩ ?_
            clear hK K
            repeat (first | (refine Mix.wpMix_read (by rfl) ?_; go_big_quiet_step (fail); refine wpQuiet_nil ?_) | (refine Mix.wpMix_pure (by rfl) ?_; go_big_quiet_step (fail); refine wpQuiet_nil ?_))
            refine Mix.wpMix_tail (by rfl) (fun K hK => ?_)
            go_wp2_with fail
            refine hK _ _ ?_
            clear hK K
            repeat (first | (refine Mix.wpMix_read (by rfl) ?_; go_big_quiet_step (fail); refine wpQuiet_nil ?_) | (refine Mix.wpMix_pure (by rfl) ?_; go_big_quiet_step (fail); refine wpQuiet_nil ?_))
            (refine Mix.wpMix_nil ?_; try simp only [Exit.then])
            go_wp2_with fail
            go_meet
            exact segCut ZB.out EB.out (Nat.le_refl _) (SegOut.ne (.inl hza) HY.out (fun y hy => by subst hy; rw [backOf_len HO.out, HLx.out]; omega) (by omega)) rfl
          · skip
            refine Mix.wpMix_chg (by rfl) (fun K hK => ?_)
            go_wp2_with fail
            refine (segmentBefore_c sy st A' n c x ((k : Int) / sy) ((k : Int) % sy) a b d _ (by exact HX2.out.drew) HK.out HMV.out).mono ?_
            rw [HSB.out]
            rintro e wb ⟨A1, n1, c1, rfl, hy, hb⟩
            have em := below_of_drew hb
            have HY := Lib.hid hy
            have EB := Lib.hid em
            have hzb := em.size
            clear hb hy
            go_wp2_with fail
            refine hK _ _ ⟨⟨_, em⟩, rfl⟩ ?_
            clear hK K
            refine Mix.wpMix_nil ?_
            refine Mix.wpF_0 ?_
            (refine Mix.wpMix_pure (by rfl) ?_; go_big_quiet_step (fail); refine wpQuiet_nil ?_)
            refine Mix.wpMix_nil ?_
            refine Mix.wpF_0 ?_
            (refine Mix.wpMix_pure (by rfl) ?_; go_big_quiet_step (fail); refine wpQuiet_nil ?_)
            refine Mix.wpMix_nil ?_
            refine Mix.wpF_0 ?_
            (refine Mix.wpMix_pure (by rfl) ?_; go_big_quiet_step (fail); refine wpQuiet_nil ?_)
            refine Mix.wpMix_nil ?_
            refine Mix.wpF_nil ?_
            refine Mix.wpMix_chg (by rfl) (fun K hK => ?_)
            go_wp2_with fail
            refine hK _ _ ⟨⟨_, em.alloc hzb _⟩, rfl⟩ ?_
            clear hK K
            obtain ⟨wa, hwa⟩ : ∃ wa, wb.alloc (.cells #[.slice none 0 0] 25) = wa := ⟨_, rfl⟩
            rw [hwa]
            have ea : Below wb.heap.size wb wa := by rw [← hwa]; exact below_size.alloc (Nat.le_refl _) _
            have ZA := Lib.hid (show Blk wa wb.heap.size 25 #[.slice none 0 0] by rw [← hwa]; exact Blk.new wb _ _)
            have em2 := below_chain EB.out hzb ea
            have EA := Lib.hid ea
            have EM := Lib.hid em2
            have z0 := ZA.out.cell 0; have g0 := ZA.out.frozen 0
            simp at z0
            clear hwa ea
            refine Mix.wpMix_tail (by rfl) (fun K hK => ?_)
            go_wp2_with fail
            refine hK _ _ ?_
            clear hK K
            repeat (first | (refine Mix.wpMix_read (by rfl) ?_; go_big_quiet_step (fail); refine wpQuiet_nil ?_) | (refine Mix.wpMix_pure (by rfl) ?_; go_big_quiet_step (fail); refine wpQuiet_nil ?_))
            (refine Mix.wpMix_nil ?_; try simp only [Exit.then])
            go_wp2_with fail
            go_meet
            exact segCut ZA.out EM.out (by omega) (SegOut.after EA.out HY.out (fun y hy => by subst hy; rw [backOf_len HO.out, HLx.out]; omega) (by simp)) rfl
        case rest =>
          obtain ⟨gy, Ay, ny, cy, rfl, rfl, hG, hy, hE⟩ := hcut
          have HG := Lib.hid hG; have HY := Lib.hid hy; have E3 := Lib.hid hE
          have hw3 := hE.size
          have B3 := Lib.hid (below_chain E2.out (by omega) hE)
          clear hG hy hE m0 r0 r1 r2
          cases o with
          | none =>
            go_wp2_with fail
            go_roundw
            case rel => exact ⟨k + 1, m, O, oc, its, by omega, by go_num, rfl, by omega, hpl, HS.out, hp1, O2.out.keep E3.out, B3.out⟩
            case measure => simp [intOf]; omega
          | some y =>
            obtain ⟨ao, rfl, rfl, hw⟩ := HY.out y rfl
            have hyl : y.length ≤ 11 := by rw [backOf_len HO.out, HLx.out]; exact hlen.2
            have HW := Lib.hid hw
            have O3 := Lib.hid (O2.out.keep E3.out)
            obtain ⟨p, hp⟩ : ∃ p, decide (y ∈ its.map It.xs) = p := ⟨_, rfl⟩
            have HP' := Lib.hid hp
            obtain ⟨wx, rfl⟩ : ∃ wx : World, wx = wc := ⟨_, rfl⟩
            have hcc := containsSeg_c gy (some ao) y.length cy y O m oc its p _ HG.out O3.out.rdII HW.out.rdI (by omega) (by omega) hp
            have HCC := Lib.hid hcc
            clear hw hp HY hcc
            go_wp2_with fail
            refine HCC.out.mono ?_
            rintro e w4 ⟨rfl, hq⟩
            have E4 := Lib.hid (hq.below wx.heap.size)
            have hz4 := E4.out.size
            have g0 := (HG.out.keep E4.out).cell 0
            simp at g0
            clear hq
            cases p
            · have HS2 := Lib.hid (show R = segGo x sy (k + 1) (rs.drop (k + 1)) (its.map It.xs ++ [y]) by rw [HS.out]; simp only [addNew]; rw [if_neg (of_decide_eq_false HP'.out)])
              have O4 := Lib.hid (O3.out.keep E4.out)
              have W4 := Lib.hid (HW.out.below E4.out)
              go_wp2_with (at_builtin; refine wp_app1 (by rfl) _ _ 27 25 (.slice none 0 0) 24 (by rfl) Try.underlying27 info_I64S rfl w0.heap.size O m oc (its.map hdI) (by rfl) (by exact O4.out.own.alloc _) w4.heap.size (.slice (some ao) y.length cy) (by rfl) (by exact new_cell _ _ _ 0) rfl (by omega) (by omega) (by simp; omega) ?_; intro g' cap w5 own5 hb5 hk5 hg5 hz5)
              have E5 := Lib.hid (below_chain (below_chain E3.out hw3 E4.out) (by omega) (below_size.alloc (Nat.le_refl _) (.cells #[.slice (some ao) y.length cy] 25)))
              have O5 := Lib.hid (O2.out.push (s := sgI (some ao) y.length y) (by omega) E5.out (((W4.out.wider (Nat.le_refl _) hz4).alloc _).wider (Nat.le_refl _) (by simp)) own5 hk5 hg5 hz5)
              have B5 := Lib.hid (E2.out.trans ((E5.out.mono (by omega)).trans hb5))
              clear own5 hb5 hk5 hg5
              go_wp2_with fail
              go_roundw
              case rel =>
                refine ⟨k + 1, m + 1, some ⟨g', 0, none⟩, cap, its ++ [⟨some ao, y.length, cy, y⟩], by omega, by go_num, rfl, by omega, by unfold Hid; rw [List.length_append, hpl.out]; rfl, by unfold Hid; rw [HS2.out]; simp, ?_, O5.out.snocII, B5.out⟩
                intro t ht
                rcases List.mem_append.1 ht with ht | ht
                · exact hp1.out t ht
                · rw [List.mem_singleton] at ht; subst ht; exact hyl
              case measure => simp [intOf]; omega
            · have HS2 := Lib.hid (show R = segGo x sy (k + 1) (rs.drop (k + 1)) (its.map It.xs) by rw [HS.out]; simp only [addNew]; rw [if_pos (of_decide_eq_true HP'.out)])
              go_wp2_with fail
              go_roundw
              case rel => exact ⟨k + 1, m, O, oc, its, by omega, by go_num, rfl, by omega, hpl, HS2.out, hp1, O3.out.keep E4.out, below_chain B3.out (by omega) E4.out⟩
              case measure => simp [intOf]; omega
      · have HS2 := Lib.hid (show R = segGo x sy (k + 1) (rs.drop (k + 1)) (its.map It.xs) by rw [HS.out, backOf, if_pos (of_decide_eq_true ho)])
        clear ho HS
        go_wp2_with fail
        go_roundw
        case rel => exact ⟨k + 1, m, O, oc, its, by omega, by go_num, rfl, by omega, hpl, HS2.out, hp1, O2.out, E2.out⟩
        case measure => simp [intOf]; omega
    · have HS := Lib.hid (show its.map It.xs = R by rw [hr.out, List.drop_eq_nil_of_le (by rw [HL.out]; omega), segGo])
      clear hb hr
      go_wp2_with fail
      go_ret
      refine ⟨O, m, oc, its, rfl, hO.out.wrII.wider (by omega) (Nat.le_refl _), ⟨by omega, fun t ht => by have := hp1.out t ht; omega, ?_, HS.out⟩, B00.out.trans (HB.out.mono (by omega))⟩
      have := sumN_bd its 11 hp1.out
      rw [hpl.out] at this; omega
set_option maxHeartbeats 1000000 in
theorem iSegmentPredecessors_c (sy st : Int) (A : Option Addr) (n cp : Nat) (rs : List Rule3) (A' : Option Addr) (m c : Nat) (x : List Int) (w : World) (h : RdS w [sgX enc3 3 A n rs]) (h' : RdI w A' m x) (hn : n ≤ 1000000000) (hn' : m ≤ 1000000000) (hnc : m ≤ c) :
    Calls Try.prog 14 #[.agg #[.int .i64 sy, .int .i64 st, .slice A n cp], .slice A' m c] w (IIOut2 (segR sy st rs x) w) := by
  replace h : Rd3 w A n rs := h.head
  have HL := Lib.hid h.len
  have H := Lib.hid h; have H' := Lib.hid h'; clear h h'
  obtain ⟨R, hR⟩ : ∃ R, segR sy st rs x = R := ⟨_, rfl⟩
  rw [hR]
  obtain ⟨q, hq⟩ : ∃ q, machB sy st rs = q := ⟨_, rfl⟩
  have HR := Lib.hid (show R = if q then (if nodeB sy st x then (segGo x sy 0 rs [], 0) else ([], 2)) else ([], 1) by rw [← hR, segR, hq]); clear hR
  have HQ := Lib.hid hq
  go_enter Try.func14, Try.ntmps14
  go_wp2_with fail
  refine (validMachine_c sy st A n cp rs q _ (by exact H.out.alloc _) hn hq).mono ?_
  rintro e w1 ⟨rfl, hb⟩
  have m0 : w1.cell? ⟨w.heap.size, 0, none⟩ = some (i64 sy) := keepc hb (by simp)
  have m1 : w1.cell? ⟨w.heap.size, 1, none⟩ = some (i64 st) := keepc hb (by simp)
  have m2 : w1.cell? ⟨w.heap.size, 2, none⟩ = some (.slice A n cp) := keepc hb (by simp)
  have T := Lib.hid (up1 hb); clear hb hq
  cases q
  · go_wp2_with fail
    go_ret2
    rw [HR.out]
    exact IIOut2.bad _ T.out
  · have hn6 := machB_n HQ.out HL.out
    have hbd := machB_bd HQ.out
    obtain ⟨p, hp⟩ : ∃ p, nodeB sy st x = p := ⟨_, rfl⟩
    have HP := Lib.hid hp
    go_wp2_with fail
    refine (validSegment_c sy st A n cp A' m c x p _ (by exact H'.out.below T.out) hbd.1 hbd.2.1 hn' hnc hp).mono ?_
    rintro e w2 ⟨rfl, hb2⟩
    have k0 := keepc hb2 m0; have k1 := keepc hb2 m1; have k2 := keepc hb2 m2
    have T2 := Lib.hid (below_chain T.out T.out.size hb2); clear hb2 m0 m1 m2 hp hbd
    cases p
    · go_wp2_with fail
      go_ret2
      rw [HR.out, HP.out]
      exact IIOut2.bad _ T2.out
    · go_wp2_with fail
      refine (segmentPredecessors_c sy st A n cp rs A' m c x _ (by exact H.out.below T2.out) (by exact H'.out.below T2.out) HQ.out (by omega) (nodeB_ok HP.out)).mono ?_
      rintro e w3 ⟨A2, n2, c2, ps, rfl, hw, hp, hb⟩
      have W2 := Lib.hid hw; have P2 := Lib.hid hp; have B2 := Lib.hid (below_chain T2.out T2.out.size hb)
      have hz := T2.out.size
      clear hw hp hb
      go_wp2_with fail
      go_ret2
      rw [HR.out, HP.out]
      exact ⟨A2, n2, c2, ps, rfl, W2.out.wider hz (Nat.le_refl _), P2.out, B2.out⟩
set_option maxHeartbeats 1000000 in
theorem sSegmentPredecessors_c (sy st : Int) (A : Option Addr) (n cp : Nat) (rs : List Rule3) (A' : Option Addr) (m c : Nat) (x : List Int) (w : World) (h : RdS w [sgX enc3 3 A n rs]) (h' : RdI w A' m x) (hn : n ≤ 1000000000) (hn' : m ≤ 1000000000) :
    Calls Try.prog 11 #[.agg #[.int .i64 sy, .int .i64 st, .slice A n cp], .slice A' m c] w (IIOut2 (segR sy st rs x) w) := by
  replace h : Rd3 w A n rs := h.head
  have HL := Lib.hid h.len
  have H := Lib.hid h; have H' := Lib.hid h'; clear h h'
  obtain ⟨R, hR⟩ : ∃ R, segR sy st rs x = R := ⟨_, rfl⟩
  rw [hR]
  obtain ⟨q, hq⟩ : ∃ q, machB sy st rs = q := ⟨_, rfl⟩
  have HR := Lib.hid (show R = if q then (if nodeB sy st x then (segGo x sy 0 rs [], 0) else ([], 2)) else ([], 1) by rw [← hR, segR, hq]); clear hR
  have HQ := Lib.hid hq
  have M0 := Lib.hid (show MachP (w.alloc (.cells #[i64 sy, i64 st, .slice A n cp] 32)) w.heap.size sy st A n cp rs from ⟨new_cell _ _ _ 0, new_cell _ _ _ 1, new_cell _ _ _ 2, H.out.alloc _⟩)
  go_enter Try.func11, Try.ntmps11
  go_wp2_with fail
  refine (l05Is_c w.heap.size sy st A n cp rs q _ (by exact M0.out) hn hq).mono ?_
  rintro e w1 ⟨rfl, hb⟩
  have M1 := Lib.hid (M0.out.below hb)
  have T := Lib.hid (up1 hb); clear hb hq
  cases q
  · go_wp2_with fail
    go_ret2
    rw [HR.out]
    exact IIOut2.bad _ T.out
  · have hn6 := machB_n HQ.out HL.out
    have hbd := machB_bd HQ.out
    obtain ⟨p, hp⟩ : ∃ p, nodeB sy st x = p := ⟨_, rfl⟩
    have HP := Lib.hid hp
    go_wp2_with fail
    refine (l26Node_c w.heap.size sy st A n cp rs A' m c x p _ (by exact M1.out) (by exact H'.out.below T.out) hbd.1 hbd.2.1 hn' hp).mono ?_
    rintro e w2 ⟨rfl, hq2⟩
    have hb2 := hq2.below w1.heap.size
    have M2 := Lib.hid (M1.out.below hb2)
    have T2 := Lib.hid (below_chain T.out T.out.size hb2); clear hb2 hp hbd hq2
    cases p
    · go_wp2_with fail
      go_ret2
      rw [HR.out, HP.out]
      exact IIOut2.bad _ T2.out
    · go_wp2_with fail
      refine (l26Backs_c w.heap.size sy st A n cp rs A' m c x _ (by exact M2.out) (by exact H'.out.below T2.out) HQ.out (by omega) (nodeB_ok HP.out)).mono ?_
      rintro e w3 ⟨A2, n2, c2, ps, rfl, hw, hp, hb⟩
      have W2 := Lib.hid hw; have P2 := Lib.hid hp; have B2 := Lib.hid (below_chain T2.out T2.out.size hb)
      have hz := T2.out.size
      clear hw hp hb
      go_wp2_with fail
      go_ret2
      rw [HR.out, HP.out]
      exact ⟨A2, n2, c2, ps, rfl, W2.out.wider hz (Nat.le_refl _), P2.out, B2.out⟩
end Go.Proofs.Ytdofcidnomjcdaa
