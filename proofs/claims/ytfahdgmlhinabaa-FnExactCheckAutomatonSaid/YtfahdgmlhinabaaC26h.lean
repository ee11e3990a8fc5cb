/-
  Contracts of chapter 26: the partial configurations at which a machine halts.
-/
import Derived.Test.YtfahdgmlhinabaaC26
import Derived.Test.YtfahdgmlhinabaaOwnS
import Derived.Test.YtfahdgmlhinabaaLawPartialS
namespace Go.Proofs.Ytfahdgmlhinabaa
open Go.RowKit

/-- the partial configurations of the rules from k on that are none -/
def hGo (sy : Int) : Nat → List Rule3 → List (Int × Int × List Int)
  | _, [] => []
  | k, r :: l => if r = noneR then ((k : Int) / sy, 0, [(k : Int) % sy]) :: hGo sy (k + 1) l else hGo sy (k + 1) l
def freeGo : Nat → List Rule3 → List Int
  | _, [] => []
  | k, r :: l => if r = noneR then (k : Int) :: freeGo (k + 1) l else freeGo (k + 1) l
theorem hGo_free (sy : Int) : ∀ (l : List Rule3) (k : Nat), hGo sy k l = (freeGo k l).map fun x => (x / sy, 0, [x % sy])
  | [], k => rfl
  | r :: l, k => by
    rw [hGo, freeGo]
    split
    · rw [List.map_cons, hGo_free sy l]
    · exact hGo_free sy l (k + 1)
theorem freeGo_mem : ∀ (l : List Rule3) (k : Nat), ∀ x ∈ freeGo k l, 0 ≤ x ∧ x < ((k + l.length : Nat) : Int)
  | [], k => fun x hx => by cases hx
  | r :: l, k => fun x hx => by
    rw [freeGo] at hx
    have h2 := freeGo_mem l (k + 1) x
    split at hx
    · rcases List.mem_cons.1 hx with rfl | hx
      · simp; omega
      · have := h2 hx; simp at *; omega
    · have := h2 hx; simp at *; omega
theorem freeGo_len : ∀ (l : List Rule3) (k : Nat), (freeGo k l).length ≤ l.length
  | [], k => Nat.le_refl _
  | r :: l, k => by
    rw [freeGo]
    have := freeGo_len l (k + 1)
    split <;> simp <;> omega
/-- a list of partial configurations of the call's own -/
def PtsOut (R : List (Int × Int × List Int)) (w : World) (e : Ending) (w' : World) : Prop :=
  ∃ A n c ps, e = .returned (.slice A n c) ∧ WrS w' w.heap.size w'.heap.size (sgPS A n ps) ∧ (n ≤ 1000000 ∧ (∀ t ∈ ps, t.n ≤ 1000000) ∧ sumP ps ≤ 100000000 ∧ ps.map datP = R) ∧ Below w.heap.size w w'
/-- .. and a code -/
def PtsOut2 (R : List (Int × Int × List Int) × Int) (w : World) (e : Ending) (w' : World) : Prop :=
  ∃ A n c ps, e = .returned (.tuple #[.slice A n c, .int .i64 R.2]) ∧ WrS w' w.heap.size w'.heap.size (sgPS A n ps) ∧ (n ≤ 1000000 ∧ (∀ t ∈ ps, t.n ≤ 1000000) ∧ sumP ps ≤ 100000000 ∧ ps.map datP = R.1) ∧ Below w.heap.size w w'
theorem PtsOut2.bad {w w' : World} (k : Int) (h : Below w.heap.size w w') : PtsOut2 ([], k) w (.returned (.tuple #[.slice none 0 0, .int .i64 k])) w' :=
  ⟨none, 0, 0, [], rfl, WrS.one (A := none) (n := 0 * 3) (vs := []) Wr.nil, ⟨by omega, by simp, by simp [sumP], rfl⟩, h⟩
theorem sumP_bd : ∀ (ps : List Pt) (m : Nat), (∀ t ∈ ps, t.n ≤ m) → sumP ps ≤ ps.length * (m + 2)
  | [], m, _ => by simp [sumP]
  | t :: l, m, h => by
    have h1 := h t (by simp)
    have h2 := sumP_bd l m (fun u hu => h u (by simp [hu]))
    rw [sumP, List.length_cons, Nat.add_mul]; omega
theorem info_Partial : (Try.prog.info? 48).map (fun i => (i.zero, i.size, i.bytes)) = some (some (.agg #[.int .i64 0, .int .i64 0, .slice none 0 0]), 3, 40) := by kernel_rfl
theorem hdP_one (t : Pt) : ∀ u ∈ hdP t, u.oneCell' = true := by intro u hu; simp [hdP] at hu; rcases hu with rfl | rfl | rfl <;> rfl

theorem div_bd {sy : Int} {k n : Nat} (hsy : 2 ≤ sy ∧ sy ≤ 6) (hk : k < n) (hn : n ≤ 10000) : -9223372036854775808 ≤ (k : Int) / sy ∧ (k : Int) / sy ≤ 9223372036854775807 := by
  have h1 := Int.ediv_nonneg (show (0 : Int) ≤ k by omega) (show 0 ≤ sy by omega)
  have h2 := Int.ediv_le_self sy (show (0 : Int) ≤ k by omega)
  omega
set_option maxHeartbeats 4000000 in
set_option maxRecDepth 100000 in
theorem l26Halting_c (g : Nat) (sy st : Int) (A : Option Addr) (n cp : Nat) (rs : List Rule3) (w : World) (h : MachP w g sy st A n cp rs) (hsy : 2 ≤ sy ∧ sy ≤ 6) (hn : n ≤ 10000) :
    Calls Try.prog 114 #[.pointer (some ⟨g, 0, none⟩)] w (PtsOut (hGo sy 0 rs) w) := by
  have HL := Lib.hid h.rd.len
  have H := Lib.hid h; clear h
  obtain ⟨R, hR⟩ : ∃ R, hGo sy 0 rs = R := ⟨_, rfl⟩
  rw [hR]
  have HR := Lib.hid hR; clear hR
  go_enter Try.func114, Try.ntmps114
  go_wp2_with fail
  go_loopw [3, 4] (fun sv iv wr => ∃ (k m : Nat) (O : Option Addr) (oc : Nat) (ps : List Pt), k ≤ n ∧ iv = .int .i64 k ∧ sv = .slice O m oc ∧ m ≤ k ∧ Hid (ps.length = m) ∧ Hid (R = ps.map datP ++ hGo sy k (rs.drop k)) ∧ Hid (∀ t ∈ ps, t.n ≤ 1) ∧
    Hid (OwnS wr w.heap.size 48 3 O m oc (ps.flatMap hdP) (ps.map bodyP)) ∧ Below w.heap.size w wr) (fun _ iv _ => n - (intOf iv).toNat)
  case atStart => exact ⟨0, 0, _, _, [], by omega, rfl, rfl, by omega, rfl, by rw [← HR.out]; rfl, by unfold Hid; simp, OwnS.nil (Own.litK (Nat.le_refl _)), below_size.alloc (Nat.le_refl _) _⟩
  case round =>
    obtain ⟨k, m, O, oc, ps, hk, rfl, rfl, hm, hpl, hr, hp1, hO, hb⟩ := hrel
    have HB := Lib.hid hb
    have hP := H.out.below hb
    have h0 := hP.c0; have h1 := hP.c1; have h2 := hP.c2
    by_cases hlt : k < n
    · obtain ⟨ad, x, rfl, hab, hx, hc0, hc1, hc2⟩ := hP.rd.at_ hlt
      have HS := Lib.hid (show R = ps.map datP ++ (if x = noneR then ((k : Int) / sy, 0, [(k : Int) % sy]) :: hGo sy (k + 1) (rs.drop (k + 1)) else hGo sy (k + 1) (rs.drop (k + 1))) by rw [hr.out, drop_at hx, hGo])
      obtain ⟨p, q, r⟩ := x
      have hwz := hb.size
      clear hx hb hr hP
      have y0 := Ext.cell h0; have y1 := Ext.cell h1; have y2 := Ext.cell h2; have z0 := Ext.cell hc0; have z1 := Ext.cell hc1; have z2 := Ext.cell hc2
      rcases rule_cases p q r with ⟨hnon, rfl, rfl, rfl⟩ | ⟨hnon, hne⟩
      · have HS2 := Lib.hid (show R = (ps.map datP ++ [((k : Int) / sy, 0, [(k : Int) % sy])]) ++ hGo sy (k + 1) (rs.drop (k + 1)) by rw [HS.out, if_pos hnon]; simp)
        clear HS hnon
        go_wp2_with fail
        refine Mix.wp_region_mix [0, 0, 0, 3, 0, 0, 3, 1, 0] (fun w' => ∃ x : Ext wr, w' = x.w) (by kernel_rfl) (by kernel_rfl) (InExt.drew _) ?_
        repeat (first | (refine Mix.wpMix_read (by rfl) ?_; go_big_quiet_step (fail); refine wpQuiet_nil ?_) | (refine Mix.wpMix_pure (by rfl) ?_; go_big_quiet_step (fail); refine wpQuiet_nil ?_))
        refine Mix.wpMix_chg (by rfl) (fun K hK => ?_)
        go_wp2_with fail
        refine (l05None_c _).mono ?_
        rintro e w2 ⟨rfl, hb⟩
        have em := below_of_drew hb
        go_wp2_with fail
        refine hK _ _ ⟨⟨_, em⟩, rfl⟩ ?_
        clear hK K
        repeat (first | (refine Mix.wpMix_read (by rfl) ?_; go_big_quiet_step (fail); refine wpQuiet_nil ?_) | (refine Mix.wpMix_pure (by rfl) ?_; go_big_quiet_step (fail); refine wpQuiet_nil ?_))
        (refine Mix.wpMix_nil ?_; try simp only [Exit.then])
        clear y0 y1 y2 z0 z1 z2
        have d0 := keepc em h0
        have x0 := Ext.cell d0
        have hO2 := Lib.hid (hO.out.keep em)
        have E2 := Lib.hid (below_chain HB.out HB.out.size em)
        have hw2 := em.size
        clear hb em h0 h1 h2 hc0 hc1 hc2
        have v1 : wrap64 ((k : Int) / sy) = (k : Int) / sy := by unfold wrap64; have := div_bd hsy hlt hn; omega
        go_wp2_with fail
        refine Mix.wp_region_mix [0, 0, 0, 0, 0, 3, 0, 0, 0, 0, 0, 3, 0, 1, 1, 1, 2, 0] (fun w' => ∃ x : Ext w2, w' = x.w) (by kernel_rfl) (by kernel_rfl) (InExt.drew _) ?_
        repeat (first | (refine Mix.wpMix_read (by rfl) ?_; go_big_quiet_step (fail); refine wpQuiet_nil ?_) | (refine Mix.wpMix_pure (by rfl) ?_; go_big_quiet_step (fail); refine wpQuiet_nil ?_))
        refine Mix.wpMix_chg (by rfl) (fun K hK => ?_)
        go_wp2_with fail
        refine hK _ _ ⟨⟨_, below_drew (below_size.alloc (Nat.le_refl _) _)⟩, rfl⟩ ?_
        clear hK K
        repeat (first | (refine Mix.wpMix_read (by rfl) ?_; go_big_quiet_step (fail); refine wpQuiet_nil ?_) | (refine Mix.wpMix_pure (by rfl) ?_; go_big_quiet_step (fail); refine wpQuiet_nil ?_))
        refine Mix.wpMix_chg (by rfl) (fun K hK => ?_)
        go_wp2_with fail
        refine hK _ _ ⟨⟨_, below_drew (below_size.alloc (Nat.le_refl _) _)⟩, rfl⟩ ?_
        clear hK K
        repeat (first | (refine Mix.wpMix_read (by rfl) ?_; go_big_quiet_step (fail); refine wpQuiet_nil ?_) | (refine Mix.wpMix_pure (by rfl) ?_; go_big_quiet_step (fail); refine wpQuiet_nil ?_))
        refine Mix.wpMix_chg (by rfl) (fun K hK => ?_)
        go_wp2_with fail
        refine hK _ _ ⟨⟨_, below_drew ((below_size.alloc (Nat.le_refl _) _).alloc (by simp) _)⟩, rfl⟩ ?_
        clear hK K v1
        obtain ⟨wa, hwa⟩ : ∃ wa, ((w2.alloc (.cells #[i64 ((k : Int) % sy)] 2)).alloc (.cells #[i64 ((k : Int) / sy), i64 0, .slice (some ⟨w2.heap.size, 0, none⟩) 1 1] 48)).drew = wa := ⟨_, rfl⟩
        rw [hwa]
        have EA := Lib.hid (show Below w2.heap.size w2 wa by rw [← hwa]; exact below_drew ((below_size.alloc (Nat.le_refl _) _).alloc (by simp) _))
        have WA := Lib.hid (show Wr wa w2.heap.size wa.heap.size (some ⟨w2.heap.size, 0, none⟩) 1 [i64 ((k : Int) % sy)] by
          rw [← hwa]; exact (((Blk.new w2 2 #[i64 ((k : Int) % sy)]).alloc _).drew).wr (Nat.le_refl _) (by simp; omega) rfl (by simp))
        have CA := Lib.hid (show ∀ j u, (hdP ⟨(k : Int) / sy, 0, some ⟨w2.heap.size, 0, none⟩, 1, 1, [(k : Int) % sy]⟩)[j]? = some u → wa.cell? ((⟨w2.heap.size + 1, 0, none⟩ : Addr).add j) = some u by
          intro j u hj; rw [← hwa]; have := new_cellsK (w := w2.alloc (.cells #[i64 ((k : Int) % sy)] 2)) #[i64 ((k : Int) / sy), i64 0, .slice (some ⟨w2.heap.size, 0, none⟩) 1 1] 48 j u hj; rwa [World.size_alloc] at this)
        have hz : w.heap.size ≤ wa.heap.size := by have := EA.out.size; omega
        clear hwa
        refine Mix.wpMix_tail (by rfl) (fun K hK => ?_)
        refine wp_app (by rfl) _ _ 45 48 (.agg #[.int .i64 0, .int .i64 0, .slice none 0 0]) 3 40 (by rfl) Try.underlying45 info_Partial rfl (by omega) w.heap.size O m oc (ps.flatMap hdP) (by rfl) (by exact (hO2.out.keep EA.out).own) ⟨w2.heap.size + 1, 0, none⟩ 1 1 (hdP ⟨(k : Int) / sy, 0, some ⟨w2.heap.size, 0, none⟩, 1, 1, [(k : Int) % sy]⟩) (by rfl) (by omega) (by rfl) CA.out (hdP_one _) (by omega) (by omega) hz ?_
        intro g' cap w3 own3 hb3 hk3 hg3 hz3
        have O3 := Lib.hid (hO2.out.push (s := sgI (some ⟨w2.heap.size, 0, none⟩) 1 [(k : Int) % sy]) (by omega) EA.out WA.out own3 hk3 hg3 hz3)
        have B3 := Lib.hid (E2.out.trans ((EA.out.mono (by omega)).trans hb3))
        clear own3 hb3 hk3 hg3
        go_wp2_with fail
        refine hK _ _ ?_
        clear hK K
        repeat (first | (refine Mix.wpMix_read (by rfl) ?_; go_big_quiet_step (fail); refine wpQuiet_nil ?_) | (refine Mix.wpMix_pure (by rfl) ?_; go_big_quiet_step (fail); refine wpQuiet_nil ?_))
        (refine Mix.wpMix_nil ?_; try simp only [Exit.then])
        go_wp2_with fail
        go_roundw
        case rel =>
          refine ⟨k + 1, m + 1, some ⟨g', 0, none⟩, cap, ps ++ [⟨(k : Int) / sy, 0, some ⟨w2.heap.size, 0, none⟩, 1, 1, [(k : Int) % sy]⟩], by omega, by go_num, rfl, by omega, by unfold Hid; rw [List.length_append, hpl.out]; rfl, by unfold Hid; rw [HS2.out]; simp [datP], ?_, ?_, B3.out⟩
          · intro t ht
            rcases List.mem_append.1 ht with ht | ht
            · exact hp1.out t ht
            · rw [List.mem_singleton] at ht; subst ht; exact Nat.le_refl _
          · have := O3.out
            unfold Hid
            rw [List.flatMap_append, List.map_append]
            simpa [bodyP] using this
        case measure => simp [intOf]; omega
      · have HS2 := Lib.hid (show R = ps.map datP ++ hGo sy (k + 1) (rs.drop (k + 1)) by rw [HS.out, if_neg hnon])
        have hne' := rule_ne p q r hne
        clear HS hnon hne
        go_wp2_with fail
        refine Mix.wp_region_mix [0, 0, 0, 3, 0, 0, 3, 1, 0] (fun w' => ∃ x : Ext wr, w' = x.w) (by kernel_rfl) (by kernel_rfl) (InExt.drew _) ?_
        repeat (first | (refine Mix.wpMix_read (by rfl) ?_; go_big_quiet_step (fail); refine wpQuiet_nil ?_) | (refine Mix.wpMix_pure (by rfl) ?_; go_big_quiet_step (fail); refine wpQuiet_nil ?_))
        refine Mix.wpMix_chg (by rfl) (fun K hK => ?_)
        go_wp2_with fail
        refine (l05None_c _).mono ?_
        rintro e w2 ⟨rfl, hb⟩
        have em := below_of_drew hb
        go_wp2_with fail
        refine hK _ _ ⟨⟨_, em⟩, rfl⟩ ?_
        clear hK K
        repeat (first | (refine Mix.wpMix_read (by rfl) ?_; go_big_quiet_step (fail); refine wpQuiet_nil ?_) | (refine Mix.wpMix_pure (by rfl) ?_; go_big_quiet_step (fail); refine wpQuiet_nil ?_))
        (refine Mix.wpMix_nil ?_; try simp only [Exit.then])
        clear y0 y1 y2 z0 z1 z2 hne'
        go_wp2_with fail
        go_roundw
        case rel => exact ⟨k + 1, m, O, oc, ps, by omega, by go_num, rfl, by omega, hpl, HS2.out, hp1, hO.out.keep em, below_chain HB.out HB.out.size em⟩
        case measure => simp [intOf]; omega
    · have HS := Lib.hid (show ps.map datP = R by rw [hr.out, List.drop_eq_nil_of_le (by rw [HL.out]; omega), hGo, List.append_nil])
      clear hb hr hP
      go_wp2_with fail
      go_ret
      refine ⟨O, m, oc, ps, rfl, hO.out.wrS, ⟨by omega, fun t ht => by have := hp1.out t ht; omega, ?_, HS.out⟩, HB.out⟩
      have := sumP_bd ps 1 hp1.out
      rw [hpl.out] at this; omega
set_option maxHeartbeats 4000000 in
set_option maxRecDepth 100000 in
theorem freeRules_c (sy st : Int) (A : Option Addr) (n cp : Nat) (rs : List Rule3) (w : World) (h : Rd3 w A n rs) (hn : n ≤ 10000) :
    Calls Try.prog 150 #[.agg #[.int .i64 sy, .int .i64 st, .slice A n cp]] w (IntsOut (freeGo 0 rs) w) := by
  have HL := Lib.hid h.len
  have H := Lib.hid h; clear h
  obtain ⟨R, hR⟩ : ∃ R, freeGo 0 rs = R := ⟨_, rfl⟩
  rw [hR]
  have HR := Lib.hid hR; clear hR
  go_enter Try.func150, Try.ntmps150
  go_wp2_with fail
  go_loopw [3, 10] (fun sv iv wr => ∃ (k m : Nat) (O : Option Addr) (oc : Nat) (ps : List Int), k ≤ n ∧ iv = .int .i64 k ∧ sv = .slice O m oc ∧ m ≤ k ∧ Hid (ps.length = m) ∧ Hid (R = ps ++ freeGo k (rs.drop k)) ∧
    Hid (Own wr w.heap.size 2 1 O m oc (ps.map i64)) ∧ Below w.heap.size w wr) (fun _ iv _ => n - (intOf iv).toNat)
  case atStart => exact ⟨0, 0, _, _, [], by omega, rfl, rfl, by omega, rfl, by rw [← HR.out]; rfl, by have := Own.lit (w := w.alloc (.cells #[.int .i64 sy, .int .i64 st, .slice A n cp] 32)) (B := w.heap.size) (e := 2) (by simp); rw [World.size_alloc] at this; exact this, (below_size.alloc (Nat.le_refl _) _).alloc (by simp) _⟩
  case round =>
    obtain ⟨k, m, O, oc, ps, hk, rfl, rfl, hm, hpl, hr, hO, hb⟩ := hrel
    have HB := Lib.hid hb
    by_cases hlt : k < n
    · obtain ⟨ad, x, rfl, hab, hx, hc0, hc1, hc2⟩ := (H.out.below hb).at_ hlt
      have HS := Lib.hid (show R = ps ++ (if x = noneR then (k : Int) :: freeGo (k + 1) (rs.drop (k + 1)) else freeGo (k + 1) (rs.drop (k + 1))) by rw [hr.out, drop_at hx, freeGo])
      obtain ⟨p, q, r⟩ := x
      have hwz := hb.size
      clear hx hb hr
      obtain ⟨o, ho⟩ : ∃ o, decide ((p, q, r) = noneR) = o := ⟨_, rfl⟩
      go_wp2_with fail
      refine (isRule_c _ _ _ _).mono ?_
      rintro e w2 ⟨rfl, hb⟩
      rw [ho]
      have em := up1 hb
      have E2 := Lib.hid (below_chain HB.out HB.out.size em)
      have O2 := Lib.hid (hO.out.keep em)
      have hw2 := em.size
      clear hb em
      cases o
      · have HS2 := Lib.hid (show R = ps ++ freeGo (k + 1) (rs.drop (k + 1)) by rw [HS.out, if_neg (of_decide_eq_false ho)])
        clear ho HS
        go_wp2_with fail
        go_roundw
        case rel => exact ⟨k + 1, m, O, oc, ps, by omega, by go_num, rfl, by omega, hpl, HS2.out, O2.out, E2.out⟩
        case measure => simp [intOf]; omega
      · have HS2 := Lib.hid (show R = (ps ++ [(k : Int)]) ++ freeGo (k + 1) (rs.drop (k + 1)) by rw [HS.out, if_pos (of_decide_eq_true ho)]; simp)
        clear ho HS
        go_wp2_with (at_builtin; refine wp_app1 (by rfl) _ _ 25 2 (.int .i64 0) 8 (by rfl) Try.underlying25 info_i64 rfl w.heap.size O m oc (ps.map i64) (by rfl) (by exact O2.out.alloc _) w2.heap.size (i64 (k : Int)) (by rfl) (by exact new_cell _ _ _ 0) rfl (by omega) (by omega) (by simp; omega) ?_; intro g' cap w3 own3 hb3 hk3 hg3 hz3)
        have O3 := Lib.hid own3
        have B3 := Lib.hid (E2.out.trans (((below_size.alloc (Nat.le_refl _) _).mono (by omega)).trans hb3))
        clear own3 hb3 hk3 hg3
        go_wp2_with fail
        go_roundw
        case rel => exact ⟨k + 1, m + 1, some ⟨g', 0, none⟩, cap, ps ++ [(k : Int)], by omega, by go_num, rfl, by omega, by unfold Hid; rw [List.length_append, hpl.out]; rfl, HS2.out, by unfold Hid; rw [List.map_append]; exact O3.out, B3.out⟩
        case measure => simp [intOf]; omega
    · have HS := Lib.hid (show ps = R by rw [hr.out, List.drop_eq_nil_of_le (by rw [HL.out]; omega), freeGo, List.append_nil])
      clear hb hr
      go_wp2_with fail
      go_ret
      have h1 := hO.out.wr
      have h2 := hpl.out
      rw [HS.out] at h1 h2
      subst h2
      exact ⟨O, oc, rfl, h1, HB.out⟩
set_option maxHeartbeats 4000000 in
set_option maxRecDepth 100000 in
theorem haltingPartials_c (sy st : Int) (A : Option Addr) (n cp : Nat) (rs : List Rule3) (w : World) (h : Rd3 w A n rs) (hsy : 2 ≤ sy ∧ sy ≤ 6) (hn : n ≤ 10000) :
    Calls Try.prog 115 #[.agg #[.int .i64 sy, .int .i64 st, .slice A n cp]] w (PtsOut (hGo sy 0 rs) w) := by
  have HL := Lib.hid h.len
  obtain ⟨w0, hw0⟩ : ∃ w0, w.alloc (.cells #[i64 sy, i64 st, .slice A n cp] 32) = w0 := ⟨_, rfl⟩
  have H := Lib.hid (show MachP w0 w.heap.size sy st A n cp rs by rw [← hw0]; exact ⟨new_cell _ _ _ 0, new_cell _ _ _ 1, new_cell _ _ _ 2, h.alloc _⟩)
  have B00 := Lib.hid (show Below w.heap.size w w0 by rw [← hw0]; exact below_size.alloc (Nat.le_refl _) _)
  have hz0 : w.heap.size < w0.heap.size := by rw [← hw0]; simp
  clear h
  obtain ⟨R, hR⟩ : ∃ R, hGo sy 0 rs = R := ⟨_, rfl⟩
  rw [hR]
  have HR := Lib.hid hR; clear hR
  have HN := Lib.hid (freeGo_len rs 0); have HM := Lib.hid (freeGo_mem rs 0)
  rw [HL.out] at HN HM
  have H1 := Lib.hid (H.out.below (below_size.alloc (Nat.le_refl _) (.cells #[] 48)))
  have m0 := H1.out.c0; have m1 := H1.out.c1; have m2 := H1.out.c2
  go_enter Try.func115, Try.ntmps115
  go_wp2_with fail
  refine (freeRules_c sy st A n cp rs _ (by exact H1.out.rd) hn).mono ?_
  rintro e w1 ⟨AF, cf, rfl, hw, hb⟩
  have WF := Lib.hid (RdU.mk' hw.rd)
  have WL := Lib.hid (show ∀ ad : Addr, 0 < (freeGo 0 rs).length → AF = some ad → w0.heap.size < ad.block ∧ ad.block < w1.heap.size from fun ad h0 ha => by
    obtain ⟨a, e, h1, h2, _⟩ := hw.2 h0
    rw [ha] at e; injection e with e; subst e
    rw [World.size_alloc] at h1
    exact ⟨by omega, h2⟩)
  have E1 := Lib.hid ((below_size.alloc (Nat.le_refl _) _).trans (hb.mono (by simp)))
  have O1 := Lib.hid (OwnS.nil (Own.keep (Own.litK (k := 3) (w := w0) (B := w0.heap.size) (e := 48) (Nat.le_refl _)) hb))
  obtain ⟨F, hF⟩ : ∃ F, freeGo 0 rs = F := ⟨_, rfl⟩
  rw [hF] at HN HM WF WL ⊢
  have HR2 := Lib.hid (show R = F.map fun x => (x / sy, 0, [x % sy]) by rw [← HR.out, hGo_free, hF])
  have hw1 := E1.out.size
  clear hw hb hw0 m0 m1 m2 H1 hF HR
  obtain ⟨f, hf⟩ : ∃ f, F.length = f := ⟨_, rfl⟩
  rw [hf] at HN WF WL ⊢
  have HFL := Lib.hid hf; clear hf
  have hfn : f ≤ n := HN.out
  go_wp2_with fail
  go_loopw [3, 10] (fun sv iv wr => ∃ (k : Nat) (O : Option Addr) (oc : Nat) (ps : List Pt), k ≤ f ∧ iv = .int .i64 k ∧ sv = .slice O k oc ∧ Hid (ps.length = k) ∧ Hid (ps.map datP = (F.take k).map fun x => (x / sy, 0, [x % sy])) ∧ Hid (∀ t ∈ ps, t.n ≤ 1) ∧
    Hid (OwnS wr w0.heap.size 48 3 O k oc (ps.flatMap hdP) (ps.map bodyP)) ∧ Hid (RdU wr w1.heap.size AF f (F.map i64)) ∧ Hid (∀ ad : Addr, O = some ad → ad.block = w0.heap.size ∨ w1.heap.size ≤ ad.block) ∧ Below w0.heap.size w0 wr ∧ w1.heap.size ≤ wr.heap.size) (fun _ iv _ => f - (intOf iv).toNat)
  case atStart => exact ⟨0, _, _, [], by omega, rfl, rfl, rfl, by simp [Hid], by unfold Hid; simp, O1.out, WF.out, fun ad ha => by injection ha with ha; subst ha; exact .inl rfl, E1.out, Nat.le_refl _⟩
  case round =>
    obtain ⟨k, O, oc, ps, hk, rfl, rfl, hpl, hr, hp1, hO, hWF, hOb, hb, hz⟩ := hrel
    have HB := Lib.hid hb
    by_cases hlt : k < f
    · obtain ⟨ad, x, rfl, hab, hx, hc⟩ := RdI.at_ (show RdI wr _ f F from hWF.out.1) hlt
      have hxm := HM.out x (List.mem_of_getElem? hx)
      rw [Nat.zero_add] at hxm
      obtain ⟨xn, rfl⟩ := Int.eq_ofNat_of_zero_le hxm.1
      have hxn : xn < n := by omega
      have HX := Lib.hid hx
      have d0 := (H.out.below hb).c0
      have y0 := Ext.cell d0
      have hwz := hb.size
      clear hx hb hxm
      have v1 : wrap64 ((xn : Int) / sy) = (xn : Int) / sy := by unfold wrap64; have := div_bd hsy hxn hn; omega
      go_wp2_with fail
      refine Mix.wp_region_mix [0, 0, 0, 3, 0, 0, 0, 3, 0, 1, 1, 1, 2, 0] (fun w' => ∃ x : Ext wr, w' = x.w) (by kernel_rfl) (by kernel_rfl) (InExt.drew _) ?_
      repeat (first | (refine Mix.wpMix_read (by rfl) ?_; go_big_quiet_step (fail); refine wpQuiet_nil ?_) | (refine Mix.wpMix_pure (by rfl) ?_; go_big_quiet_step (fail); refine wpQuiet_nil ?_))
      refine Mix.wpMix_chg (by rfl) (fun K hK => ?_)
      go_wp2_with fail
      refine hK _ _ ⟨⟨_, below_drew (below_size.alloc (Nat.le_refl _) _)⟩, rfl⟩ ?_
      clear hK K
      repeat (first | (refine Mix.wpMix_read (by rfl) ?_; go_big_quiet_step (fail); refine wpQuiet_nil ?_) | (refine Mix.wpMix_pure (by rfl) ?_; go_big_quiet_step (fail); refine wpQuiet_nil ?_))
      refine Mix.wpMix_chg (by rfl) (fun K hK => ?_)
      go_wp2_with fail
      refine hK _ _ ⟨⟨_, below_drew (below_size.alloc (Nat.le_refl _) _)⟩, rfl⟩ ?_
      clear hK K
      repeat (first | (refine Mix.wpMix_read (by rfl) ?_; go_big_quiet_step (fail); refine wpQuiet_nil ?_) | (refine Mix.wpMix_pure (by rfl) ?_; go_big_quiet_step (fail); refine wpQuiet_nil ?_))
      refine Mix.wpMix_chg (by rfl) (fun K hK => ?_)
      go_wp2_with fail
      refine hK _ _ ⟨⟨_, below_drew ((below_size.alloc (Nat.le_refl _) _).alloc (by simp) _)⟩, rfl⟩ ?_
      clear hK K v1
      obtain ⟨wa, hwa⟩ : ∃ wa, ((wr.alloc (.cells #[i64 ((xn : Int) % sy)] 2)).alloc (.cells #[i64 ((xn : Int) / sy), i64 0, .slice (some ⟨wr.heap.size, 0, none⟩) 1 1] 48)).drew = wa := ⟨_, rfl⟩
      rw [hwa]
      have EA := Lib.hid (show Below wr.heap.size wr wa by rw [← hwa]; exact below_drew ((below_size.alloc (Nat.le_refl _) _).alloc (by simp) _))
      have WA := Lib.hid (show Wr wa wr.heap.size wa.heap.size (some ⟨wr.heap.size, 0, none⟩) 1 [i64 ((xn : Int) % sy)] by
        rw [← hwa]; exact (((Blk.new wr 2 #[i64 ((xn : Int) % sy)]).alloc _).drew).wr (Nat.le_refl _) (by simp; omega) rfl (by simp))
      have CA := Lib.hid (show ∀ j u, (hdP ⟨(xn : Int) / sy, 0, some ⟨wr.heap.size, 0, none⟩, 1, 1, [(xn : Int) % sy]⟩)[j]? = some u → wa.cell? ((⟨wr.heap.size + 1, 0, none⟩ : Addr).add j) = some u by
        intro j u hj; rw [← hwa]; have := new_cellsK (w := wr.alloc (.cells #[i64 ((xn : Int) % sy)] 2)) #[i64 ((xn : Int) / sy), i64 0, .slice (some ⟨wr.heap.size, 0, none⟩) 1 1] 48 j u hj; rwa [World.size_alloc] at this)
      have hzz : w0.heap.size ≤ wa.heap.size := by have := EA.out.size; omega
      have hne : ∀ ad', O = some ad' → ad'.block ≠ ad.block := by
        intro ad' ha
        have h1 := hOb.out ad' ha
        have h2 := WL.out ad (by omega) rfl
        omega
      clear hwa
      refine Mix.wpMix_tail (by rfl) (fun K hK => ?_)
      refine wp_app (by rfl) _ _ 45 48 (.agg #[.int .i64 0, .int .i64 0, .slice none 0 0]) 3 40 (by rfl) Try.underlying45 info_Partial rfl (by omega) w0.heap.size O k oc (ps.flatMap hdP) (by rfl) (by exact (hO.out.keep EA.out).own) ⟨wr.heap.size + 1, 0, none⟩ 1 1 (hdP ⟨(xn : Int) / sy, 0, some ⟨wr.heap.size, 0, none⟩, 1, 1, [(xn : Int) % sy]⟩) (by rfl) (by omega) (by rfl) CA.out (hdP_one _) (by omega) (by omega) hzz ?_
      intro g' cap w3 own3 hb3 hk3 hg3 hz3
      have O3 := Lib.hid (hO.out.push (s := sgI (some ⟨wr.heap.size, 0, none⟩) 1 [(xn : Int) % sy]) (by omega) EA.out WA.out own3 hk3 hg3 hz3)
      have B3 := Lib.hid (HB.out.trans ((EA.out.mono (by omega)).trans hb3))
      have WF3 := Lib.hid (show RdU w3 w1.heap.size (some ad) f (F.map i64) from ⟨(hWF.out.below EA.out).1.move (fun a h0 ha => by injection ha with ha; subst ha; exact hk3 _ (Nat.lt_of_lt_of_le hab EA.out.size) hne) hz3, hWF.out.2⟩)
      have OB3 := Lib.hid (show ∀ a : Addr, some (⟨g', 0, none⟩ : Addr) = some a → a.block = w0.heap.size ∨ w1.heap.size ≤ a.block from fun a ha => by
        injection ha with ha; subst ha
        rcases hg3 with hg3 | hg3
        · exact hOb.out _ hg3
        · right; show _ ≤ g'; have := EA.out.size; omega)
      have hz4 : w1.heap.size ≤ w3.heap.size := by have := EA.out.size; omega
      clear own3 hb3 hk3 hg3
      go_wp2_with fail
      refine hK _ _ ?_
      clear hK K
      repeat (first | (refine Mix.wpMix_read (by rfl) ?_; go_big_quiet_step (fail); refine wpQuiet_nil ?_) | (refine Mix.wpMix_pure (by rfl) ?_; go_big_quiet_step (fail); refine wpQuiet_nil ?_))
      (refine Mix.wpMix_nil ?_; try simp only [Exit.then])
      go_wp2_with fail
      go_roundw
      case rel =>
        refine ⟨k + 1, some ⟨g', 0, none⟩, cap, ps ++ [⟨(xn : Int) / sy, 0, some ⟨wr.heap.size, 0, none⟩, 1, 1, [(xn : Int) % sy]⟩], by omega, by go_num, rfl, by unfold Hid; rw [List.length_append, hpl.out]; rfl, by unfold Hid; rw [take_at HX.out, List.map_append, List.map_append, hr.out]; rfl, ?_, ?_, WF3.out, OB3.out, B3.out, hz4⟩
        · intro t ht
          rcases List.mem_append.1 ht with ht | ht
          · exact hp1.out t ht
          · rw [List.mem_singleton] at ht; subst ht; exact Nat.le_refl _
        · have := O3.out
          unfold Hid
          rw [List.flatMap_append, List.map_append]
          simpa [bodyP] using this
      case measure => simp [intOf]; omega
    · have HS := Lib.hid (show ps.map datP = R by rw [hr.out, HR2.out, List.take_of_length_le (by rw [HFL.out]; omega)])
      clear hb hr
      go_wp2_with fail
      go_ret
      refine ⟨O, k, oc, ps, rfl, hO.out.wrS.wider (by omega) (Nat.le_refl _), ⟨by omega, fun t ht => by have := hp1.out t ht; omega, ?_, HS.out⟩, B00.out.trans (HB.out.mono (by omega))⟩
      have := sumP_bd ps 1 hp1.out
      rw [hpl.out] at this; omega
def haltR (sy st : Int) (rs : List Rule3) : List (Int × Int × List Int) × Int := if machB sy st rs then (hGo sy 0 rs, 0) else ([], 1)
theorem machB_n {sy st : Int} {rs : List Rule3} {n : Nat} (h : machB sy st rs = true) (hl : rs.length = n) : n ≤ 6000 := by
  obtain ⟨h1, h2, h3⟩ := machB_bd h
  have := mul_bd2 h1 h2
  omega
end Go.Proofs.Ytfahdgmlhinabaa
