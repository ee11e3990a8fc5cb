/-
  Contracts of chapter 26: all predecessors of a partial configuration.
-/
import Derived.Test.YtfahdgmlhinabaaC26q
import Derived.Test.YtfahdgmlhinabaaC26h
namespace Go.Proofs.Ytfahdgmlhinabaa
open Go.RowKit

/-- the predecessors by the rules from k on, behind those that were found; none if one is too long -/
def preGo (s a : Int) (xs : List Int) (sy : Int) : Nat → List Rule3 → List Part → Option (List Part)
  | _, [], acc => some acc
  | k, r :: l, acc => match befR s a xs sy k r with
    | none => preGo s a xs sy (k + 1) l acc
    | some y => if 60 < y.2.2.length then none else preGo s a xs sy (k + 1) l (acc ++ [y])
def preT (o : Option (List Part)) : List Part × Int := match o with | some l => (l, 0) | none => ([], 5)
def preR (sy st : Int) (rs : List Rule3) (s a : Int) (xs : List Int) : List Part × Int := if vpartB sy st rs s a xs then preT (preGo s a xs sy 0 rs []) else ([], 1)
theorem befR_len {s a : Int} {xs : List Int} {sy : Int} {k : Nat} {r : Rule3} {y : Part} (h : befR s a xs sy k r = some y) : xs.length ≤ y.2.2.length ∧ y.2.2.length ≤ xs.length + 1 := by
  unfold befR at h
  split at h
  · cases h
  · exact predB_len h
theorem mach_ruleP {sy st : Int} {rs : List Rule3} {k : Nat} {a b c : Int} (hm : machB sy st rs = true) (h : rs[k]? = some (a, b, c)) : (a, b, c) = noneR ∨ ((a, b, c) ≠ noneR ∧ (0 ≤ a ∧ a ≤ sy - 1) ∧ (b = 1 ∨ b = -1) ∧ (0 ≤ c ∧ c ≤ st - 1)) := by
  simp only [machB, Bool.and_eq_true, List.all_eq_true] at hm
  have := hm.2 _ (List.mem_of_getElem? h)
  by_cases hn : (a, b, c) = noneR
  · exact .inl hn
  · simp only [ruleB, hn, decide_false, Bool.false_or, Bool.and_eq_true, inB_iff, Bool.or_eq_true, beq_iff_eq] at this
    exact .inr ⟨hn, this.1.1, this.1.2, this.2⟩
/-- partial configurations, or none -/
def PssOut (o : Option (List Part)) (w : World) (e : Ending) (w' : World) : Prop :=
  ∃ A n c, e = .returned (.tuple #[.slice A n c, .bool o.isSome]) ∧ (∀ l, o = some l → ∃ ps, WrS w' w.heap.size w'.heap.size (sgPS A n ps) ∧ (n ≤ 1000000 ∧ (∀ t ∈ ps, t.n ≤ 1000000) ∧ sumP ps ≤ 100000000 ∧ ps.map datP = l)) ∧ Below w.heap.size w w'
theorem wr3 {w2 : World} {g n c : Nat} {A : Option Addr} {a0 a1 : Value} {t : TypeId} (hb : Blk w2 g t #[a0, a1, .slice A n c]) : ∀ j u, ([a0, a1, .slice A n c] : List Value)[j]? = some u → w2.cell? ((⟨g, 0, none⟩ : Addr).add j) = some u := by
  intro j u hj
  rw [head_add, hb.cell j, ← hj]
  simp
set_option maxHeartbeats 4000000 in
set_option maxRecDepth 100000 in
theorem l26Predecessors_c (g : Nat) (sy st : Int) (A : Option Addr) (nr cp : Nat) (rs : List Rule3) (g' : Nat) (s at_ : Int) (A' : Option Addr) (n c : Nat) (xs : List Int) (w : World) (h : MachP w g sy st A nr cp rs) (hx : PartP w g' s at_ A' n c xs) (hm : machB sy st rs = true) (hnr : nr ≤ 10000)
    (hn : 1 ≤ n ∧ n ≤ 60) (hat : 0 ≤ at_ ∧ at_ ≤ (n : Int) - 1) :
    Calls Try.prog 66 #[.pointer (some ⟨g, 0, none⟩), .pointer (some ⟨g', 0, none⟩)] w (PssOut (preGo s at_ xs sy 0 rs []) w) := by
  have HL := Lib.hid h.rd.len
  have HLx := Lib.hid hx.rd.len
  have H := Lib.hid h; have HX := Lib.hid hx; have HM := Lib.hid hm; clear h hx
  have hsy := (machB_bd hm).1
  clear hm
  obtain ⟨R, hR⟩ : ∃ R, preGo s at_ xs sy 0 rs [] = R := ⟨_, rfl⟩
  rw [hR]
  have HR := Lib.hid hR; clear hR
  go_enter Try.func66, Try.ntmps66
  go_wp2_with fail
  go_loopw [6, 7] (fun sv iv wr => ∃ (k m : Nat) (O : Option Addr) (oc : Nat) (ps : List Pt), k ≤ nr ∧ iv = .int .i64 k ∧ sv = .slice O m oc ∧ m ≤ k ∧ Hid (ps.length = m) ∧ Hid (R = preGo s at_ xs sy k (rs.drop k) (ps.map datP)) ∧ Hid (∀ t ∈ ps, t.n ≤ 60) ∧
    Hid (OwnS wr w.heap.size 48 3 O m oc (ps.flatMap hdP) (ps.map bodyP)) ∧ Below w.heap.size w wr) (fun _ iv _ => nr - (intOf iv).toNat)
  case atStart => exact ⟨0, 0, _, _, [], by omega, rfl, rfl, by omega, rfl, by rw [← HR.out]; rfl, by unfold Hid; simp, OwnS.nil (Own.litK (Nat.le_refl _)), below_size.alloc (Nat.le_refl _) _⟩
  case round =>
    obtain ⟨k, m, O, oc, ps, hk, rfl, rfl, hmk, hpl, hr, hp1, hO, hb⟩ := hrel
    have HB := Lib.hid hb
    have hP := H.out.below hb
    have h2 := hP.c2
    have hwz := hb.size
    by_cases hlt : k < nr
    · have hkl : k < rs.length := by rw [HL.out]; exact hlt
      obtain ⟨r, hrk⟩ : ∃ r, rs[k]? = some r := ⟨_, List.getElem?_eq_getElem hkl⟩
      obtain ⟨a, b, d⟩ := r
      have HS := Lib.hid (show R = (match befR s at_ xs sy k (a, b, d) with | none => preGo s at_ xs sy (k + 1) (rs.drop (k + 1)) (ps.map datP) | some y => if 60 < y.2.2.length then none else preGo s at_ xs sy (k + 1) (rs.drop (k + 1)) (ps.map datP ++ [y])) by rw [hr.out, drop_at hrk, preGo])
      have hc := l26Before_c g sy st A nr cp rs g' s at_ A' n c xs k a b d wr hP (HX.out.below hb) hsy hnr hrk hn hat ((mach_ruleP HM.out hrk).imp id (fun h => h.2.2.1))
      obtain ⟨o, ho⟩ : ∃ o, befR s at_ xs sy k (a, b, d) = o := ⟨_, rfl⟩
      have HO := Lib.hid ho
      rw [ho] at hc HS
      have HC := Lib.hid hc
      clear ho hb hr hP hrk hc
      go_wp2_with fail
      refine HC.out.mono ?_
      rintro e w1 ⟨s1, a1, A1, n1, c1, rfl, hy, hb1⟩
      have HY := Lib.hid hy
      have hz1 := hb1.size
      have E1 := Lib.hid hb1
      clear hb1 hy
      cases o with
      | none =>
        go_wp2_with fail
        go_roundw
        case rel => exact ⟨k + 1, m, O, oc, ps, by omega, by go_num, rfl, by omega, hpl, HS.out, hp1, hO.out.keep (E1.out.alloc hz1 _), below_chain HB.out hwz (E1.out.alloc hz1 _)⟩
        case measure => simp [intOf]; omega
      | some y =>
        obtain ⟨rfl, rfl, rfl, hw⟩ := HY.out y rfl
        have hyl := befR_len HO.out
        rw [HLx.out] at hyl
        have HW := Lib.hid hw
        obtain ⟨s1, a1, ys⟩ := y
        clear hw HY
        obtain ⟨n1, hn1⟩ : ∃ n1, ys.length = n1 := ⟨_, rfl⟩
        have HN1 := Lib.hid hn1
        simp only [hn1] at hyl HW HS ⊢
        clear hn1
        by_cases h60 : 60 < n1
        · have HS2 := Lib.hid (show R = none by rw [HS.out, if_pos h60])
          have k60 : decide ((60 : Int) < (n1 : Int)) = true := decide_eq_true (by omega)
          go_wp2_with fail
          go_ret2
          rw [HS2.out]
          exact ⟨none, 0, 0, rfl, (fun l hl => by cases hl), below_chain HB.out hwz (E1.out.alloc hz1 _)⟩
        · have HS2 := Lib.hid (show R = preGo s at_ xs sy (k + 1) (rs.drop (k + 1)) (ps.map datP ++ [(s1, a1, ys)]) by rw [HS.out, if_neg h60])
          have k60 : decide ((60 : Int) < (n1 : Int)) = false := decide_eq_false (by omega)
          obtain ⟨wa, hwa⟩ : ∃ wa, (w1.alloc (.cells #[i64 s1, i64 a1, .slice A1 n1 c1] 48)).alloc (.cells #[i64 s1, i64 a1, .slice A1 n1 c1] 48) = wa := ⟨_, rfl⟩
          have EA := Lib.hid (show Below wr.heap.size wr wa by rw [← hwa]; exact (E1.out.alloc hz1 _).alloc (by simp; omega) _)
          have hza : wa.heap.size = w1.heap.size + 1 + 1 := by rw [← hwa]; simp
          have WA := Lib.hid (show Wr wa wr.heap.size wa.heap.size A1 n1 (ys.map i64) by
            have := HW.out.below (show Below w1.heap.size w1 wa by rw [← hwa]; exact (below_size.alloc (Nat.le_refl _) _).alloc (by simp) _)
            exact this.wider (Nat.le_refl _) (by omega))
          have CA := Lib.hid (show ∀ j u, (hdP ⟨s1, a1, A1, n1, c1, ys⟩)[j]? = some u → wa.cell? ((⟨w1.heap.size + 1, 0, none⟩ : Addr).add j) = some u by
            have hb3 : Blk wa (w1.heap.size + 1) 48 #[i64 s1, i64 a1, .slice A1 n1 c1] := by
              rw [← hwa]; have := Blk.new (w1.alloc (.cells #[i64 s1, i64 a1, .slice A1 n1 c1] 48)) 48 #[i64 s1, i64 a1, .slice A1 n1 c1]; rwa [World.size_alloc] at this
            exact wr3 hb3)
          have hz : w.heap.size ≤ wa.heap.size := by omega
          clear h60 hza
          go_wp2_with (at_builtin; refine wp_app (by rfl) _ _ 45 48 (.agg #[.int .i64 0, .int .i64 0, .slice none 0 0]) 3 40 (by rfl) Try.underlying45 info_Partial rfl (by omega) w.heap.size O m oc (ps.flatMap hdP) (by rfl) (by exact (hO.out.keep EA.out).own) ⟨w1.heap.size + 1, 0, none⟩ 1 1 (hdP ⟨s1, a1, A1, n1, c1, ys⟩) (by rfl) (by omega) (by rfl) CA.out (hdP_one _) (by omega) (by omega) hz ?_; intro g' cap w3 own3 hb3 hk3 hg3 hz3)
          have O3 := Lib.hid (hO.out.push (s := sgI A1 n1 ys) (by omega) EA.out WA.out own3 hk3 hg3 hz3)
          have B3 := Lib.hid (HB.out.trans ((EA.out.mono (by omega)).trans hb3))
          clear own3 hb3 hk3 hg3 hwa
          go_wp2_with fail
          go_roundw
          case rel =>
            refine ⟨k + 1, m + 1, some ⟨g', 0, none⟩, cap, ps ++ [⟨s1, a1, A1, n1, c1, ys⟩], by omega, by go_num, rfl, by omega, by unfold Hid; rw [List.length_append, hpl.out]; rfl, by unfold Hid; rw [HS2.out, List.map_append]; rfl, ?_, ?_, B3.out⟩
            · intro t ht
              rcases List.mem_append.1 ht with ht | ht
              · exact hp1.out t ht
              · rw [List.mem_singleton] at ht; subst ht; show n1 ≤ 60; simp at k60; omega
            · have := O3.out
              unfold Hid
              rw [List.flatMap_append, List.map_append]
              simpa [bodyP] using this
          case measure => simp [intOf]; omega
    · have HS := Lib.hid (show R = some (ps.map datP) by rw [hr.out, List.drop_eq_nil_of_le (by rw [HL.out]; omega), preGo])
      clear hb hr hP
      go_wp2_with fail
      go_ret2
      rw [HS.out]
      refine ⟨O, m, oc, rfl, fun l hl => ?_, HB.out⟩
      injection hl with hl; subst hl
      refine ⟨ps, hO.out.wrS, by omega, fun t ht => by have := hp1.out t ht; omega, ?_, rfl⟩
      have := sumP_bd ps 60 hp1.out
      rw [hpl.out] at this; omega
end Go.Proofs.Ytfahdgmlhinabaa
