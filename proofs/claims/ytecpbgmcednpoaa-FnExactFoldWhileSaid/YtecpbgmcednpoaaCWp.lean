/-
  Contracts of chapter 22: a folded expression of the program.
-/
import Derived.Test.YtecpbgmcednpoaaCWo
import Derived.Test.YtecpbgmcednpoaaMixG
namespace Go.Proofs.Ytecpbgmcednpoaa
open Go.RowKit

/-- a list of slices that grows by append; its slices' rows, and another row (G), are only read, and lie apart from its own block -/
structure OwnP (w : World) (B : Nat) (e : TypeId) (P : Option Addr) (k pc : Nat) (rs : List ItV) (G : Option Addr) (m : Nat) (gv : List Value) : Prop where
  own : Own w B e 1 P k pc (rs.map hdV)
  rows : ∀ t ∈ rs, Rd w t.A (t.n * 2) t.vs
  ne : ∀ t ∈ rs, ∀ a p, t.A = some a → P = some p → 0 < t.n → a.block ≠ p.block
  new : ∀ t ∈ rs, ∀ a, t.A = some a → B ≤ a.block
  gr : Rd w G m gv
  gne : ∀ a p, G = some a → P = some p → 0 < m → a.block ≠ p.block
theorem Rd.at_block {w w' : World} {A : Option Addr} {n : Nat} {vs : List Value} (h : Rd w A n vs) (hk : ∀ a, A = some a → 0 < n → w'.heap[a.block]? = w.heap[a.block]?) (hs : w.heap.size ≤ w'.heap.size) : Rd w' A n vs :=
  ⟨h.1, fun hn => by
    obtain ⟨ad, e, hlt, hc⟩ := h.2 hn
    exact ⟨ad, e, Nat.lt_of_lt_of_le hlt hs, fun j u hu => (World.cell?_of_block (a := ad.add j) (by rw [block_add]; exact hk ad e hn)).trans (hc j u hu)⟩⟩
section
variable {w w' : World} {B : Nat} {e : TypeId} {P : Option Addr} {k pc : Nat} {rs : List ItV} {G : Option Addr} {m : Nat} {gv : List Value}
theorem OwnP.keep (h : OwnP w B e P k pc rs G m gv) (hb : Below w.heap.size w w') : OwnP w' B e P k pc rs G m gv := ⟨h.own.keep hb, fun t ht => (h.rows t ht).below hb, h.ne, h.new, h.gr.below hb, h.gne⟩
theorem OwnP.push {w0 w1 : World} {g' cap k' : Nat} {t : ItV} (h : OwnP w0 B e P k pc rs G m gv) (hB : B ≤ w0.heap.size) (hb : Below w0.heap.size w0 w1) (hs : Rd w1 t.A (t.n * 2) t.vs) (hn : ∀ a, t.A = some a → w0.heap.size ≤ a.block)
    (hown : Own w' B e 1 (some ⟨g', 0, none⟩) k' cap (rs.map hdV ++ [hdV t])) (hk : ∀ b, b < w1.heap.size → (∀ ad', P = some ad' → ad'.block ≠ b) → w'.heap[b]? = w1.heap[b]?) (hg : P = some ⟨g', 0, none⟩ ∨ g' = w1.heap.size) (hz : w1.heap.size ≤ w'.heap.size) :
    OwnP w' B e (some ⟨g', 0, none⟩) k' cap (rs ++ [t]) G m gv := by
  have h1 := h.keep hb
  have hz1 := hb.size
  have hP : ∀ ad', P = some ad' → ad'.block < w0.heap.size := fun ad' e => (h.own.block e).2.1
  refine ⟨by rw [List.map_append, List.map_singleton]; exact hown, fun u hu => ?_, fun u hu a p ha hp hm => ?_, fun u hu a ha => ?_, ?_, fun a p ha hp hm => ?_⟩
  · rcases List.mem_append.1 hu with hu | hu
    · exact (h1.rows u hu).at_block (fun a ha hm => hk _ ((h1.rows u hu).blocks a hm ha) fun ad' hA => (h.ne u hu a ad' ha hA (by omega)).symm) hz
    · rw [List.mem_singleton] at hu; subst hu
      exact hs.at_block (fun a ha hm => hk _ (hs.blocks a hm ha) fun ad' hA => by have := hP ad' hA; have := hn a ha; omega) hz
  · injection hp with hp; subst hp
    show a.block ≠ g'
    rcases List.mem_append.1 hu with hu | hu
    · rcases hg with hg | hg
      · exact h.ne u hu a _ ha hg hm
      · have := (h1.rows u hu).blocks a (by omega) ha; omega
    · rw [List.mem_singleton] at hu; subst hu
      rcases hg with hg | hg
      · have := hP _ hg; have := hn a ha; simp only at *; omega
      · have := hs.blocks a (by omega) ha; omega
  · rcases List.mem_append.1 hu with hu | hu
    · exact h.new u hu a ha
    · rw [List.mem_singleton] at hu; subst hu
      exact Nat.le_trans hB (hn a ha)
  · exact h1.gr.at_block (fun a ha hm => hk _ (h1.gr.blocks a hm ha) fun ad' hA => (h.gne a ad' ha hA hm).symm) hz
  · injection hp with hp; subst hp
    show a.block ≠ g'
    rcases hg with hg | hg
    · exact h.gne a _ ha hg hm
    · have := h1.gr.blocks a hm ha; omega
end
/-- an expression that a call hands back in memory of its own, to be read -/
def FolOut (F : List (Int × Int)) (w : World) (e : Ending) (w' : World) : Prop := ∃ A m c, e = .returned (.slice A m c) ∧ Rd2 w' A m F ∧ (∀ a, A = some a → w.heap.size ≤ a.block) ∧ m ≤ c ∧ Below w.heap.size w w'
/-- the parts that are folded so far -/
def PartsOk (N : Nat) (l : List (Int × Int)) (rs : List ItV) : Prop := ∀ i t, rs[i]? = some t → t.vs = (foldK N (opdE l i)).flatMap enc2 ∧ t.n ≤ t.c ∧ t.n ≤ 40
theorem PartsOk.push {N : Nat} {l : List (Int × Int)} {rs : List ItV} {t : ItV} {k : Nat} (h : PartsOk N l rs) (hk : rs.length = k) (h1 : t.vs = (foldK N (opdE l k)).flatMap enc2) (h2 : t.n ≤ t.c) (h3 : t.n ≤ 40) : PartsOk N l (rs ++ [t]) := by
  intro i u hu
  rcases Nat.lt_or_ge i k with hi | hi
  · rw [List.getElem?_append_left (by omega)] at hu; exact h i u hu
  · rw [List.getElem?_append_right (by omega)] at hu
    obtain ⟨j, hj⟩ : ∃ j, i - rs.length = j := ⟨_, rfl⟩
    rw [hj] at hu
    cases j with
    | zero => simp at hu; subst hu; obtain rfl : i = k := by omega
              exact ⟨h1, h2, h3⟩
    | succ j => simp at hu
theorem len_two {α : Type} : ∀ {l : List α}, l.length = 2 → ∃ a b, l = [a, b]
  | [a, b], _ => ⟨a, b, rfl⟩
  | [], h => by simp at h
  | [_], h => by simp at h
  | _ :: _ :: _ :: _, h => by simp at h
set_option maxHeartbeats 4000000 in
set_option maxRecDepth 100000 in
theorem foldedExpr_c (N : Nat) : ∀ (A : Option Addr) (n cp : Nat) (e : List (Int × Int)) (w : World), Rd2 w A n e → n ≤ cp → n ≤ N → N ≤ 40 → isE e → Calls Try.prog 41 #[.slice A n cp] w (FolOut (foldK N e) w) := by
  induction N with
  | zero => intro A n cp e w h hcp hn hN he; have := isE_pos he; rw [h.len] at this; omega
  | succ N IH =>
    intro A n cp e w h hcp hn hN he
    obtain ⟨⟨t, v⟩, l, rfl⟩ := isE_ne he
    have hnl := h.len
    rw [List.length_cons] at hnl
    obtain ⟨ad, rfl, hab, hc0, hc1⟩ := h.first
    simp only at hc0 hc1
    obtain ⟨F, hF⟩ : ∃ F, foldK (N + 1) ((t, v) :: l) = F := ⟨_, rfl⟩
    rw [hF]
    obtain ⟨m, hm⟩ : ∃ m, manyE t = m := ⟨_, rfl⟩
    have hm2 : m ≤ 2 := by rw [← hm]; exact manyE_le t
    have HIH := Lib.hid IH; have H := Lib.hid h; have HE := Lib.hid he; have HF := Lib.hid hF; have HM := Lib.hid hm
    have HNL := Lib.hid hnl
    have HC0 := Lib.hid hc0; have HC1 := Lib.hid hc1
    clear IH h he hF hm hc0 hc1
    have hn0 : 0 < n := by omega
    clear hnl
    go_enter Try.func41, Try.ntmps41
    go_wp2_with fail
    have E0 := Lib.hid (show Below w.heap.size w (w.alloc (.cells #[] 44)) from below_size.alloc (Nat.le_refl _) _)
    refine (operands_c ad n cp t v l m _ (by exact H.out.below E0.out) hcp (by omega) HE.out HM.out).mono ?_
    rintro e w2 ⟨G, gc, rfl, hRV, hGn, hb2⟩
    have E2 := Lib.hid (below_chain E0.out (by simp) hb2)
    have O2 := Lib.hid (show OwnP w2 w.heap.size 44 (some ⟨w.heap.size, 0, none⟩) 0 0 [] G m ((itsO ad cp l m).map hdV) from
      ⟨(Own.lit (Nat.le_refl _)).keep hb2, (fun t ht => by cases ht), (fun t ht => by cases ht), (fun t ht => by cases ht), hRV.head, fun a p ha hp _ => by have := hGn a ha; injection hp with hp; subst hp; show a.block ≠ w.heap.size; simp at this; omega⟩)
    have hz2 := E2.out.size
    clear hRV hb2
    go_wp2_with fail
    go_loopw [3, 11] (fun pv iv wr => ∃ (k pc : Nat) (P : Option Addr) (rs : List ItV), k ≤ m ∧ iv = .int .i64 k ∧ pv = .slice P k pc ∧ Hid (rs.length = k) ∧ Hid (PartsOk N l rs) ∧ Hid (OwnP wr w.heap.size 44 P k pc rs G m ((itsO ad cp l m).map hdV)) ∧ Below w.heap.size w wr) (fun _ iv _ => m - (intOf iv).toNat)
    case atStart => exact ⟨0, 0, some ⟨w.heap.size, 0, none⟩, [], by omega, rfl, rfl, rfl, (fun i t ht => by simp at ht), O2.out, E2.out⟩
    case round =>
      obtain ⟨k, pc, P, rs, hkm, rfl, rfl, hrl, hpo, hO, hb⟩ := hrel
      have HB := Lib.hid hb
      have hzr := hb.size
      by_cases hlt : k < m
      · have hkt : k < manyE ((t, v) : Int × Int).1 := by show k < manyE t; rw [HM.out]; exact hlt
        obtain ⟨h1, h2, h3, _, h5, h6⟩ := opd_ok HE.out hkt
        have hn4 := HNL.out
        obtain ⟨_, vh, hga, _, hvh, hgc⟩ := hO.out.gr.at_ hlt
        obtain ⟨ga, rfl⟩ : ∃ ga, G = some ga := ⟨_, hga⟩
        injection hga with hga; subst hga
        rw [List.getElem?_map, itsO_at hlt] at hvh
        injection hvh with hvh; subst hvh
        have RK := Lib.hid (itO_rd (cp := cp) (H.out.below hb) HE.out hkt)
        obtain ⟨oA, on, oc, ovs, hit⟩ : ∃ oA on oc ovs, itO ad cp l k = ⟨oA, on, oc, ovs⟩ := ⟨_, _, _, _, rfl⟩
        have hoc : on ≤ oc := by have e1 : on = posE l (k + 1) - posE l k := (congrArg ItV.n hit).symm
                                 have e2 : oc = cp - posE l k := (congrArg ItV.c hit).symm
                                 omega
        have hon : on ≤ N := by have e1 : on = posE l (k + 1) - posE l k := (congrArg ItV.n hit).symm
                                omega
        rw [hit] at hgc RK
        simp only [hdV] at hgc RK
        obtain ⟨hok1, hok2⟩ := foldK_ok N _ h5 (by omega)
        obtain ⟨X, hX⟩ : ∃ X, foldK N (opdE l k) = X := ⟨_, rfl⟩
        rw [hX] at hok2
        have hX40 : X.length ≤ 40 := by omega
        have HX := Lib.hid hX; have H5 := Lib.hid h5
        clear h1 h2 h3 h5 h6 hn4 hit hok1 hok2 hX hb
        go_wp2_with (first
          | (go_at_call 41; refine (HIH.out oA on oc (opdE l k) wr RK.out hoc hon (by omega) H5.out).mono ?_; rw [HX.out]; rintro e w5 ⟨A5, m5, c5, rfl, hr5, hn5, hm5, hb5⟩; have hml5 := hr5.len; have R5 := Lib.hid hr5; have N5 := Lib.hid hn5; have E5 := Lib.hid hb5; have hz5 := hb5.size)
          | (at_builtin; refine wp_app1 (by rfl) _ _ 68 44 (.slice none 0 0) 24 (by rfl) Try.underlying68 info_sE rfl w.heap.size P k pc (rs.map hdV) (by rfl) (by exact (hO.out.own.keep E5.out).alloc _) w5.heap.size (.slice A5 m5 c5) (by rfl) (by exact new_cell _ _ _ 0) rfl (by omega) (by omega) (by simp; omega) ?_; intro g6 c6 w6 own6 hb6 hk6 hg6 hz6))
        have O6 := Lib.hid (hO.out.push (t := ⟨A5, m5, c5, X.flatMap enc2⟩) hzr (E5.out.alloc hz5 _) (Rd.alloc R5.out _) N5.out own6 hk6 hg6 hz6)
        have B6 := Lib.hid ((below_chain HB.out hzr (E5.out.alloc hz5 _)).trans hb6)
        clear own6 hb6 hk6 hg6 hz6
        go_roundw
        case rel => exact ⟨k + 1, c6, some ⟨g6, 0, none⟩, rs ++ [(⟨A5, m5, c5, X.flatMap enc2⟩ : ItV)], by omega, by go_num, rfl, by unfold Hid; rw [List.length_append, hrl.out]; rfl, hpo.out.push hrl.out (by rw [HX.out]) hm5 (by show m5 ≤ 40; omega), O6.out, B6.out⟩
        case measure => simp [intOf]; omega
      · obtain rfl : k = m := by omega
        have RX := Lib.hid (H.out.below hb)
        have hw0 := keepc hb HC0.out
        have hw1 := keepc hb HC1.out
        clear hb
        by_cases h3 : t = 3
        · subst h3
          obtain rfl : k = 1 := by rw [← HM.out]; rfl
          obtain ⟨r0, rfl⟩ := List.length_eq_one_iff.1 hrl.out
          obtain ⟨hr1, hr2, hr3⟩ := hpo.out 0 r0 rfl
          have hel := (isE_un (many_un.2 (.inl rfl))).1 HE.out
          rw [opd_un HE.out (many_un.2 (.inl rfl))] at hr1
          obtain ⟨hok1, _⟩ := foldK_ok N l hel (by have := HNL.out; omega)
          obtain ⟨a, ha⟩ : ∃ a, foldK N l = a := ⟨_, rfl⟩
          rw [ha] at hr1 hok1
          have HA := Lib.hid ha; have HOK := Lib.hid hok1
          obtain ⟨pa, rfl, hpc⟩ : ∃ pa, P = some pa ∧ wr.cell? pa = some (hdV r0) := by
            obtain ⟨pa, vv, e, _, _, _, hvv, hcc, _⟩ := hO.out.own.wr.at_ (k := 0) (by omega)
            simp at hvv; subst hvv
            rw [add_zero'] at hcc
            exact ⟨pa, e, hcc⟩
          have hr := hO.out.rows r0 (by simp)
          have hrn := hO.out.new r0 (by simp)
          obtain ⟨rA, m1, c1, rvs⟩ := r0
          simp only at hr1 hr2 hr3 hr hrn
          subst hr1
          have R1 : Hid (Rd2 wr rA m1 a) := hr
          have N1 := Lib.hid hrn
          simp only [hdV] at hpc
          clear hr hrn ha hel hok1
          obtain ⟨⟨ty, vy⟩, b, rfl⟩ := isE_ne HOK.out
          have hml := R1.out.len
          rw [List.length_cons] at hml
          obtain ⟨a1, rfl, hab1, hd0, hd1⟩ := R1.out.first
          simp only at hd0 hd1
          have HML := Lib.hid hml
          have hm0 : 0 < m1 := by omega
          have HFF := Lib.hid (show pickE (3, v) ((ty, vy) :: b) = F by rw [← HF.out, foldK_un (.inl rfl), HA.out])
          clear hml
          by_cases hy0 : ty = 0
          · subst hy0
            have HG := Lib.hid (show ((0, vy) :: b) = F by rw [← HFF.out, pickE, if_pos rfl])
            go_wp2_with fail
            go_ret
            rw [← HG.out]
            exact ⟨_, _, _, rfl, R1.out, N1.out, hr2, HB.out⟩
          have gy0 : (ty == 0) = false := by simpa using hy0
          by_cases hy2 : ty = 2
          · subst hy2
            have hok2 : (1 - 1) < manyE (2 : Int) := by rw [many_two.2 (.inl rfl)]; omega
            obtain ⟨h1, h2, h3, _⟩ := opd_ok HOK.out hok2
            have z0 := Ext.cell hw0
            go_wp2_with fail
            refine Mix.wp_region_mix [0, 1, 0, 0, 0, 3, 0, 0, 1, 0] (fun w' => ∃ x : Ext wr, w' = x.w) (by kernel_rfl) (by kernel_rfl) (InExt.drew _) ?_
            repeat (first | (refine Mix.wpMix_read (by rfl) ?_; go_big_quiet_step (fail); refine wpQuiet_nil ?_) | (refine Mix.wpMix_pure (by rfl) ?_; go_big_quiet_step (fail); refine wpQuiet_nil ?_))
            refine Mix.wpMix_chg (by rfl) (fun K hK => ?_)
            go_wp2_with fail
            refine (operands_c a1 m1 c1 2 vy b 2 _ (by exact R1.out.drew) hr2 (by omega) HOK.out (many_two.2 (.inl rfl))).mono ?_
            rintro e w7 ⟨G7, gc7, rfl, hRV7, _, hb7⟩
            have e7 := below_of_drew hb7
            obtain ⟨g7, hg7, hc7⟩ : ∃ g7, G7 = some g7 ∧ w7.cell? (g7.add (1 - 1)) = some (hdV (itO a1 c1 b (1 - 1))) := by
              obtain ⟨g7, _, e, ht, hcc, _⟩ := hRV7.at_ (j := 1 - 1) (by omega)
              rw [itsO_at (by omega)] at ht
              injection ht with ht; subst ht
              exact ⟨g7, e, hcc⟩
            subst hg7
            simp only [hdV] at hc7
            rw [add_zero'] at hc7
            have R7 := Lib.hid (itO_rd (cp := c1) (R1.out.below e7) HOK.out hok2)
            have E7 := Lib.hid e7
            clear hb7 hRV7
            go_wp2_with fail
            refine hK _ _ ⟨⟨_, e7⟩, rfl⟩ ?_
            clear hK K
            repeat (first | (refine Mix.wpMix_read (by rfl) ?_; go_big_quiet_step (fail); refine wpQuiet_nil ?_) | (refine Mix.wpMix_pure (by rfl) ?_; go_big_quiet_step (fail); refine wpQuiet_nil ?_))
            refine Mix.wpMix_chg (by rfl) (fun K hK => ?_)
            go_wp2_with fail
            refine hK _ _ ⟨⟨_, E7.out⟩, rfl⟩ ?_
            clear hK K
            repeat (first | (refine Mix.wpMix_read (by rfl) ?_; go_big_quiet_step (fail); refine wpQuiet_nil ?_) | (refine Mix.wpMix_pure (by rfl) ?_; go_big_quiet_step (fail); refine wpQuiet_nil ?_))
            (refine Mix.wpMix_nil ?_; try simp only [Exit.then])
            go_wp2_with fail
            go_ret
            have hml := HML.out
            refine ⟨_, _, _, rfl, ?_, fun a ha => ?_, ?_, below_chain HB.out hzr E7.out⟩
            · rw [← HFF.out, pickE_head, ← (opd_two HOK.out (many_two.2 (.inl rfl))).1]; exact R7.out
            · have ha' : some (a1.add (posE b (1 - 1) * 2)) = some a := ha
              injection ha' with ha'; rw [← ha', block_add]; exact N1.out _ rfl
            · show posE b (1 - 1 + 1) - posE b (1 - 1) ≤ c1 - posE b (1 - 1); omega
          · have gy2 : (ty == 2) = false := by simpa using hy2
            have HG := Lib.hid (show (3, v) :: (ty, vy) :: b = F by rw [← HFF.out, pickE, if_neg hy0, if_neg hy2])
            have HRV := Lib.hid (show RdV wr 2 (some pa) 1 [⟨some a1, m1, c1, ((ty, vy) :: b).flatMap enc2⟩] from ⟨hO.out.own.wr.rd, hO.out.rows, fun t ht => by rw [List.mem_singleton] at ht; subst ht; exact one_pairs _⟩)
            have hsum : sumV [(⟨some a1, m1, c1, ((ty, vy) :: b).flatMap enc2⟩ : ItV)] = m1 := rfl
            have HS := Lib.hid (show [(⟨some a1, m1, c1, ((ty, vy) :: b).flatMap enc2⟩ : ItV)].flatMap ItV.vs = ((ty, vy) :: b).flatMap enc2 by simp)
            go_wp2_with fail
            have z0 := Ext.cell hw0; have z1 := Ext.cell hw1
            refine Mix.wp_region_mixG 3 5 [0, 0, 3, 1, 0, 1, 2, 0] (fun w' => ∃ x : Ext wr, w' = x.w) (by kernel_rfl) (by kernel_rfl) (InExt.drew _) _ (by rfl) ?_
            simp only [List.take_succ_cons, List.take_zero, List.drop_succ_cons, List.drop_zero, List.cons_append, List.nil_append, Nat.reduceSub]
            refine Mix.wpF_0 ?_
            (refine Mix.wpMix_pure (by rfl) ?_; go_big_quiet_step (fail); refine wpQuiet_nil ?_)
            refine Mix.wpMix_nil ?_
            refine Mix.wpF_0 ?_
            (refine Mix.wpMix_pure (by rfl) ?_; go_big_quiet_step (fail); refine wpQuiet_nil ?_)
            refine Mix.wpMix_nil ?_
            refine Mix.wpF_3 ?_
            (refine Mix.wpMix_read (by rfl) ?_; go_big_quiet_step (fail); refine wpQuiet_nil ?_)
            refine Mix.wpMix_nil ?_
            refine Mix.wpF_0 ?_
            (refine Mix.wpMix_pure (by rfl) ?_; go_big_quiet_step (fail); refine wpQuiet_nil ?_)
            refine Mix.wpMix_nil ?_
            refine Mix.wpF_1 ?_ ?_
            · simp only [List.nil_append]
              have e0 : Below wr.heap.size wr (wr.alloc (.cells #[i64 3, i64 v] 49)).drew := below_drew (below_size.alloc (Nat.le_refl _) _)
              refine Mix.wpMix_chg (by rfl) (fun K hK => ?_)
              go_wp2_with fail
              refine hK _ _ ⟨⟨_, e0⟩, rfl⟩ ?_
              clear hK K
              refine Mix.wpMix_chg (by rfl) (fun K hK => ?_)
              go_wp2_with fail
              refine (concatExpr_c (some pa) 1 _ [(⟨some a1, m1, c1, ((ty, vy) :: b).flatMap enc2⟩ : ItV)] _ (by exact HRV.out.below e0) (by omega) (by rw [hsum]; omega)).mono ?_
              rw [hsum, HS.out]
              rintro e w8 ⟨A8, c8, rfl, hw8, hc8, hb8⟩
              have e8 := below_chain e0 e0.size hb8
              have O8 := Lib.hid ((show Own (wr.alloc (.cells #[i64 3, i64 v] 49)).drew wr.heap.size 49 2 (some ⟨wr.heap.size, 0, none⟩) 1 1 ([((3 : Int), v)].flatMap enc2) from Own.fullK (Nat.le_refl _) rfl rfl (by omega)).keep hb8)
              have R8 := Lib.hid (show Rd2 w8 A8 (m1) (((ty, vy) :: b)) from hw8.rd)
              have hz8 := e8.size
              have E8 := Lib.hid e8
              clear hw8 hb8
              go_wp2_with fail
              refine hK _ _ ⟨⟨_, E8.out⟩, rfl⟩ ?_
              clear hK K
              repeat (first | (refine Mix.wpMix_read (by rfl) ?_; go_big_quiet_step (fail); refine wpQuiet_nil ?_) | (refine Mix.wpMix_pure (by rfl) ?_; go_big_quiet_step (fail); refine wpQuiet_nil ?_))
              refine Mix.wpMix_tail (by rfl) (fun K hK => ?_)
              refine wp_appExpr (by rfl) _ _ (by rfl) (wr.heap.size) _ 1 1 ([((3 : Int), v)].flatMap enc2) (by rfl) (by exact O8.out) A8 (m1) c8 (((ty, vy) :: b)) (by rfl) (by exact R8.out) (by omega) (by first | exact hz8 | (simp; done) | (simp; omega)) ?_
              intro A9 c9 w9 own9 hb9 hk9 hg9 hz9
              rw [← List.flatMap_append] at own9
              have hcap := own9.cap
              have B9 := Lib.hid (E8.out.trans (hb9.mono (by first | exact Nat.le_refl _ | exact hz9')))
              have O9 := Lib.hid own9
              clear own9 hb9 hk9 hg9 hz9
              go_wp2_with fail
              refine hK _ _ ?_
              clear hK K
              repeat (first | (refine Mix.wpMix_read (by rfl) ?_; go_big_quiet_step (fail); refine wpQuiet_nil ?_) | (refine Mix.wpMix_pure (by rfl) ?_; go_big_quiet_step (fail); refine wpQuiet_nil ?_))
              (refine Mix.wpMix_nil ?_; try simp only [Exit.then])
              go_wp2_with fail
              go_ret
              refine ⟨_, _, _, rfl, by rw [← HG.out]; exact O9.out.wrK.rd, fun a ha => Nat.le_trans (by first | exact hzr | exact Nat.le_trans hzr hz9') (O9.out.block ha).1, hcap, below_chain HB.out hzr B9.out⟩
            · skip
              refine Mix.wpMix_chg (by rfl) (fun K hK => ?_)
              go_wp2_with fail
              refine (concatExpr_c (some pa) 1 _ [(⟨some a1, m1, c1, ((ty, vy) :: b).flatMap enc2⟩ : ItV)] _ (by exact HRV.out.below (below_drew below_size)) (by omega) (by rw [hsum]; omega)).mono ?_
              rw [hsum, HS.out]
              rintro e w8 ⟨A8, c8, rfl, hw8, hc8, hb8⟩
              have e8 := below_of_drew hb8
              have R8 := Lib.hid (show Rd2 (w8.alloc (.cells #[i64 3, i64 v] 49)) A8 (m1) (((ty, vy) :: b)) from Rd.alloc hw8.rd _)
              have hz9' := e8.size
              have E8 := Lib.hid (e8.alloc hz9' (.cells #[i64 3, i64 v] 49))
              have hz8 := E8.out.size
              have O8 := Lib.hid (show Own (w8.alloc (.cells #[i64 3, i64 v] 49)) w8.heap.size 49 2 (some ⟨w8.heap.size, 0, none⟩) 1 1 ([((3 : Int), v)].flatMap enc2) from Own.fullK (Nat.le_refl _) rfl rfl (by omega))
              have E9 := Lib.hid e8
              clear hw8 hb8
              go_wp2_with fail
              refine hK _ _ ⟨⟨_, E9.out⟩, rfl⟩ ?_
              clear hK K
              refine Mix.wpMix_nil ?_
              refine Mix.wpF_nil ?_
              refine Mix.wpMix_chg (by rfl) (fun K hK => ?_)
              go_wp2_with fail
              refine hK _ _ ⟨⟨_, E8.out⟩, rfl⟩ ?_
              clear hK K
              refine Mix.wpMix_tail (by rfl) (fun K hK => ?_)
              refine wp_appExpr (by rfl) _ _ (by rfl) (w8.heap.size) _ 1 1 ([((3 : Int), v)].flatMap enc2) (by rfl) (by exact O8.out) A8 (m1) c8 (((ty, vy) :: b)) (by rfl) (by exact R8.out) (by omega) (by first | exact hz8 | (simp; done) | (simp; omega)) ?_
              intro A9 c9 w9 own9 hb9 hk9 hg9 hz9
              rw [← List.flatMap_append] at own9
              have hcap := own9.cap
              have B9 := Lib.hid (E8.out.trans (hb9.mono (by first | exact Nat.le_refl _ | exact hz9')))
              have O9 := Lib.hid own9
              clear own9 hb9 hk9 hg9 hz9
              go_wp2_with fail
              refine hK _ _ ?_
              clear hK K
              repeat (first | (refine Mix.wpMix_read (by rfl) ?_; go_big_quiet_step (fail); refine wpQuiet_nil ?_) | (refine Mix.wpMix_pure (by rfl) ?_; go_big_quiet_step (fail); refine wpQuiet_nil ?_))
              (refine Mix.wpMix_nil ?_; try simp only [Exit.then])
              go_wp2_with fail
              go_ret
              refine ⟨_, _, _, rfl, by rw [← HG.out]; exact O9.out.wrK.rd, fun a ha => Nat.le_trans (by first | exact hzr | exact Nat.le_trans hzr hz9') (O9.out.block ha).1, hcap, below_chain HB.out hzr B9.out⟩
        have g3 : (t == 3) = false := by simpa using h3
        by_cases h4 : t = 4
        · subst h4
          obtain rfl : k = 1 := by rw [← HM.out]; rfl
          obtain ⟨r0, rfl⟩ := List.length_eq_one_iff.1 hrl.out
          obtain ⟨hr1, hr2, hr3⟩ := hpo.out 0 r0 rfl
          have hel := (isE_un (many_un.2 (.inr rfl))).1 HE.out
          rw [opd_un HE.out (many_un.2 (.inr rfl))] at hr1
          obtain ⟨hok1, _⟩ := foldK_ok N l hel (by have := HNL.out; omega)
          obtain ⟨a, ha⟩ : ∃ a, foldK N l = a := ⟨_, rfl⟩
          rw [ha] at hr1 hok1
          have HA := Lib.hid ha; have HOK := Lib.hid hok1
          obtain ⟨pa, rfl, hpc⟩ : ∃ pa, P = some pa ∧ wr.cell? pa = some (hdV r0) := by
            obtain ⟨pa, vv, e, _, _, _, hvv, hcc, _⟩ := hO.out.own.wr.at_ (k := 0) (by omega)
            simp at hvv; subst hvv
            rw [add_zero'] at hcc
            exact ⟨pa, e, hcc⟩
          have hr := hO.out.rows r0 (by simp)
          have hrn := hO.out.new r0 (by simp)
          obtain ⟨rA, m1, c1, rvs⟩ := r0
          simp only at hr1 hr2 hr3 hr hrn
          subst hr1
          have R1 : Hid (Rd2 wr rA m1 a) := hr
          have N1 := Lib.hid hrn
          simp only [hdV] at hpc
          clear hr hrn ha hel hok1
          obtain ⟨⟨ty, vy⟩, b, rfl⟩ := isE_ne HOK.out
          have hml := R1.out.len
          rw [List.length_cons] at hml
          obtain ⟨a1, rfl, hab1, hd0, hd1⟩ := R1.out.first
          simp only at hd0 hd1
          have HML := Lib.hid hml
          have hm0 : 0 < m1 := by omega
          have HFF := Lib.hid (show pickE (4, v) ((ty, vy) :: b) = F by rw [← HF.out, foldK_un (.inr rfl), HA.out])
          clear hml
          by_cases hy0 : ty = 0
          · subst hy0
            have HG := Lib.hid (show ((0, vy) :: b) = F by rw [← HFF.out, pickE, if_pos rfl])
            go_wp2_with fail
            go_ret
            rw [← HG.out]
            exact ⟨_, _, _, rfl, R1.out, N1.out, hr2, HB.out⟩
          have gy0 : (ty == 0) = false := by simpa using hy0
          by_cases hy2 : ty = 2
          · subst hy2
            have hok2 : (2 - 1) < manyE (2 : Int) := by rw [many_two.2 (.inl rfl)]; omega
            obtain ⟨h1, h2, h3, _⟩ := opd_ok HOK.out hok2
            have z0 := Ext.cell hw0
            go_wp2_with fail
            refine Mix.wp_region_mix [0, 1, 0, 0, 0, 3, 0, 0, 1, 0] (fun w' => ∃ x : Ext wr, w' = x.w) (by kernel_rfl) (by kernel_rfl) (InExt.drew _) ?_
            repeat (first | (refine Mix.wpMix_read (by rfl) ?_; go_big_quiet_step (fail); refine wpQuiet_nil ?_) | (refine Mix.wpMix_pure (by rfl) ?_; go_big_quiet_step (fail); refine wpQuiet_nil ?_))
            refine Mix.wpMix_chg (by rfl) (fun K hK => ?_)
            go_wp2_with fail
            refine (operands_c a1 m1 c1 2 vy b 2 _ (by exact R1.out.drew) hr2 (by omega) HOK.out (many_two.2 (.inl rfl))).mono ?_
            rintro e w7 ⟨G7, gc7, rfl, hRV7, _, hb7⟩
            have e7 := below_of_drew hb7
            obtain ⟨g7, hg7, hc7⟩ : ∃ g7, G7 = some g7 ∧ w7.cell? (g7.add (2 - 1)) = some (hdV (itO a1 c1 b (2 - 1))) := by
              obtain ⟨g7, _, e, ht, hcc, _⟩ := hRV7.at_ (j := 2 - 1) (by omega)
              rw [itsO_at (by omega)] at ht
              injection ht with ht; subst ht
              exact ⟨g7, e, hcc⟩
            subst hg7
            simp only [hdV] at hc7
            have hc7 : w7.cell? ⟨g7.block, g7.off + 1, none⟩ = some (.slice (itO a1 c1 b 1).A (itO a1 c1 b 1).n (itO a1 c1 b 1).c) := by have := hc7; unfold Addr.add at this; simpa using this
            have R7 := Lib.hid (itO_rd (cp := c1) (R1.out.below e7) HOK.out hok2)
            have E7 := Lib.hid e7
            clear hb7 hRV7
            go_wp2_with fail
            refine hK _ _ ⟨⟨_, e7⟩, rfl⟩ ?_
            clear hK K
            repeat (first | (refine Mix.wpMix_read (by rfl) ?_; go_big_quiet_step (fail); refine wpQuiet_nil ?_) | (refine Mix.wpMix_pure (by rfl) ?_; go_big_quiet_step (fail); refine wpQuiet_nil ?_))
            refine Mix.wpMix_chg (by rfl) (fun K hK => ?_)
            go_wp2_with fail
            refine hK _ _ ⟨⟨_, E7.out⟩, rfl⟩ ?_
            clear hK K
            repeat (first | (refine Mix.wpMix_read (by rfl) ?_; go_big_quiet_step (fail); refine wpQuiet_nil ?_) | (refine Mix.wpMix_pure (by rfl) ?_; go_big_quiet_step (fail); refine wpQuiet_nil ?_))
            (refine Mix.wpMix_nil ?_; try simp only [Exit.then])
            go_wp2_with fail
            go_ret
            have hml := HML.out
            refine ⟨_, _, _, rfl, ?_, fun a ha => ?_, ?_, below_chain HB.out hzr E7.out⟩
            · rw [← HFF.out, pickE_tail, ← (opd_two HOK.out (many_two.2 (.inl rfl))).2]; exact R7.out
            · have ha' : some (a1.add (posE b (2 - 1) * 2)) = some a := ha
              injection ha' with ha'; rw [← ha', block_add]; exact N1.out _ rfl
            · show posE b (2 - 1 + 1) - posE b (2 - 1) ≤ c1 - posE b (2 - 1); omega
          · have gy2 : (ty == 2) = false := by simpa using hy2
            have HG := Lib.hid (show (4, v) :: (ty, vy) :: b = F by rw [← HFF.out, pickE, if_neg hy0, if_neg hy2])
            have HRV := Lib.hid (show RdV wr 2 (some pa) 1 [⟨some a1, m1, c1, ((ty, vy) :: b).flatMap enc2⟩] from ⟨hO.out.own.wr.rd, hO.out.rows, fun t ht => by rw [List.mem_singleton] at ht; subst ht; exact one_pairs _⟩)
            have hsum : sumV [(⟨some a1, m1, c1, ((ty, vy) :: b).flatMap enc2⟩ : ItV)] = m1 := rfl
            have HS := Lib.hid (show [(⟨some a1, m1, c1, ((ty, vy) :: b).flatMap enc2⟩ : ItV)].flatMap ItV.vs = ((ty, vy) :: b).flatMap enc2 by simp)
            go_wp2_with fail
            have z0 := Ext.cell hw0; have z1 := Ext.cell hw1
            refine Mix.wp_region_mixG 3 5 [0, 0, 3, 1, 0, 1, 2, 0] (fun w' => ∃ x : Ext wr, w' = x.w) (by kernel_rfl) (by kernel_rfl) (InExt.drew _) _ (by rfl) ?_
            simp only [List.take_succ_cons, List.take_zero, List.drop_succ_cons, List.drop_zero, List.cons_append, List.nil_append, Nat.reduceSub]
            refine Mix.wpF_0 ?_
            (refine Mix.wpMix_pure (by rfl) ?_; go_big_quiet_step (fail); refine wpQuiet_nil ?_)
            refine Mix.wpMix_nil ?_
            refine Mix.wpF_0 ?_
            (refine Mix.wpMix_pure (by rfl) ?_; go_big_quiet_step (fail); refine wpQuiet_nil ?_)
            refine Mix.wpMix_nil ?_
            refine Mix.wpF_3 ?_
            (refine Mix.wpMix_read (by rfl) ?_; go_big_quiet_step (fail); refine wpQuiet_nil ?_)
            refine Mix.wpMix_nil ?_
            refine Mix.wpF_0 ?_
            (refine Mix.wpMix_pure (by rfl) ?_; go_big_quiet_step (fail); refine wpQuiet_nil ?_)
            refine Mix.wpMix_nil ?_
            refine Mix.wpF_1 ?_ ?_
            · simp only [List.nil_append]
              have e0 : Below wr.heap.size wr (wr.alloc (.cells #[i64 4, i64 v] 49)).drew := below_drew (below_size.alloc (Nat.le_refl _) _)
              refine Mix.wpMix_chg (by rfl) (fun K hK => ?_)
              go_wp2_with fail
              refine hK _ _ ⟨⟨_, e0⟩, rfl⟩ ?_
              clear hK K
              refine Mix.wpMix_chg (by rfl) (fun K hK => ?_)
              go_wp2_with fail
              refine (concatExpr_c (some pa) 1 _ [(⟨some a1, m1, c1, ((ty, vy) :: b).flatMap enc2⟩ : ItV)] _ (by exact HRV.out.below e0) (by omega) (by rw [hsum]; omega)).mono ?_
              rw [hsum, HS.out]
              rintro e w8 ⟨A8, c8, rfl, hw8, hc8, hb8⟩
              have e8 := below_chain e0 e0.size hb8
              have O8 := Lib.hid ((show Own (wr.alloc (.cells #[i64 4, i64 v] 49)).drew wr.heap.size 49 2 (some ⟨wr.heap.size, 0, none⟩) 1 1 ([((4 : Int), v)].flatMap enc2) from Own.fullK (Nat.le_refl _) rfl rfl (by omega)).keep hb8)
              have R8 := Lib.hid (show Rd2 w8 A8 (m1) (((ty, vy) :: b)) from hw8.rd)
              have hz8 := e8.size
              have E8 := Lib.hid e8
              clear hw8 hb8
              go_wp2_with fail
              refine hK _ _ ⟨⟨_, E8.out⟩, rfl⟩ ?_
              clear hK K
              repeat (first | (refine Mix.wpMix_read (by rfl) ?_; go_big_quiet_step (fail); refine wpQuiet_nil ?_) | (refine Mix.wpMix_pure (by rfl) ?_; go_big_quiet_step (fail); refine wpQuiet_nil ?_))
              refine Mix.wpMix_tail (by rfl) (fun K hK => ?_)
              refine wp_appExpr (by rfl) _ _ (by rfl) (wr.heap.size) _ 1 1 ([((4 : Int), v)].flatMap enc2) (by rfl) (by exact O8.out) A8 (m1) c8 (((ty, vy) :: b)) (by rfl) (by exact R8.out) (by omega) (by first | exact hz8 | (simp; done) | (simp; omega)) ?_
              intro A9 c9 w9 own9 hb9 hk9 hg9 hz9
              rw [← List.flatMap_append] at own9
              have hcap := own9.cap
              have B9 := Lib.hid (E8.out.trans (hb9.mono (by first | exact Nat.le_refl _ | exact hz9')))
              have O9 := Lib.hid own9
              clear own9 hb9 hk9 hg9 hz9
              go_wp2_with fail
              refine hK _ _ ?_
              clear hK K
              repeat (first | (refine Mix.wpMix_read (by rfl) ?_; go_big_quiet_step (fail); refine wpQuiet_nil ?_) | (refine Mix.wpMix_pure (by rfl) ?_; go_big_quiet_step (fail); refine wpQuiet_nil ?_))
              (refine Mix.wpMix_nil ?_; try simp only [Exit.then])
              go_wp2_with fail
              go_ret
              refine ⟨_, _, _, rfl, by rw [← HG.out]; exact O9.out.wrK.rd, fun a ha => Nat.le_trans (by first | exact hzr | exact Nat.le_trans hzr hz9') (O9.out.block ha).1, hcap, below_chain HB.out hzr B9.out⟩
            · skip
              refine Mix.wpMix_chg (by rfl) (fun K hK => ?_)
              go_wp2_with fail
              refine (concatExpr_c (some pa) 1 _ [(⟨some a1, m1, c1, ((ty, vy) :: b).flatMap enc2⟩ : ItV)] _ (by exact HRV.out.below (below_drew below_size)) (by omega) (by rw [hsum]; omega)).mono ?_
              rw [hsum, HS.out]
              rintro e w8 ⟨A8, c8, rfl, hw8, hc8, hb8⟩
              have e8 := below_of_drew hb8
              have R8 := Lib.hid (show Rd2 (w8.alloc (.cells #[i64 4, i64 v] 49)) A8 (m1) (((ty, vy) :: b)) from Rd.alloc hw8.rd _)
              have hz9' := e8.size
              have E8 := Lib.hid (e8.alloc hz9' (.cells #[i64 4, i64 v] 49))
              have hz8 := E8.out.size
              have O8 := Lib.hid (show Own (w8.alloc (.cells #[i64 4, i64 v] 49)) w8.heap.size 49 2 (some ⟨w8.heap.size, 0, none⟩) 1 1 ([((4 : Int), v)].flatMap enc2) from Own.fullK (Nat.le_refl _) rfl rfl (by omega))
              have E9 := Lib.hid e8
              clear hw8 hb8
              go_wp2_with fail
              refine hK _ _ ⟨⟨_, E9.out⟩, rfl⟩ ?_
              clear hK K
              refine Mix.wpMix_nil ?_
              refine Mix.wpF_nil ?_
              refine Mix.wpMix_chg (by rfl) (fun K hK => ?_)
              go_wp2_with fail
              refine hK _ _ ⟨⟨_, E8.out⟩, rfl⟩ ?_
              clear hK K
              refine Mix.wpMix_tail (by rfl) (fun K hK => ?_)
              refine wp_appExpr (by rfl) _ _ (by rfl) (w8.heap.size) _ 1 1 ([((4 : Int), v)].flatMap enc2) (by rfl) (by exact O8.out) A8 (m1) c8 (((ty, vy) :: b)) (by rfl) (by exact R8.out) (by omega) (by first | exact hz8 | (simp; done) | (simp; omega)) ?_
              intro A9 c9 w9 own9 hb9 hk9 hg9 hz9
              rw [← List.flatMap_append] at own9
              have hcap := own9.cap
              have B9 := Lib.hid (E8.out.trans (hb9.mono (by first | exact Nat.le_refl _ | exact hz9')))
              have O9 := Lib.hid own9
              clear own9 hb9 hk9 hg9 hz9
              go_wp2_with fail
              refine hK _ _ ?_
              clear hK K
              repeat (first | (refine Mix.wpMix_read (by rfl) ?_; go_big_quiet_step (fail); refine wpQuiet_nil ?_) | (refine Mix.wpMix_pure (by rfl) ?_; go_big_quiet_step (fail); refine wpQuiet_nil ?_))
              (refine Mix.wpMix_nil ?_; try simp only [Exit.then])
              go_wp2_with fail
              go_ret
              refine ⟨_, _, _, rfl, by rw [← HG.out]; exact O9.out.wrK.rd, fun a ha => Nat.le_trans (by first | exact hzr | exact Nat.le_trans hzr hz9') (O9.out.block ha).1, hcap, below_chain HB.out hzr B9.out⟩
        have g4 : (t == 4) = false := by simpa using h4
        by_cases h2 : t = 2
        · subst h2
          obtain rfl : k = 2 := by rw [← HM.out]; rfl
          obtain ⟨r0, r1, rfl⟩ : ∃ r0 r1, rs = [r0, r1] := len_two hrl.out
          obtain ⟨hr1, hr2, hr3⟩ := hpo.out 0 r0 rfl
          obtain ⟨hs1, hs2, hs3⟩ := hpo.out 1 r1 rfl
          obtain ⟨ho1, ho2⟩ := opd_two HE.out (many_two.2 (.inl rfl))
          rw [ho1] at hr1; rw [ho2] at hs1
          obtain ⟨a, ha⟩ : ∃ a, foldK N (l.take (endM l)) = a := ⟨_, rfl⟩
          obtain ⟨b, hb⟩ : ∃ b, foldK N (l.drop (endM l)) = b := ⟨_, rfl⟩
          rw [ha] at hr1; rw [hb] at hs1
          have HFF := Lib.hid (show pairE (2, v) a b = F by rw [← HF.out, foldK_two (.inl rfl), ha, hb])
          obtain ⟨pa, rfl, hpc, hpd⟩ : ∃ pa, P = some pa ∧ wr.cell? pa = some (hdV r0) ∧ wr.cell? ⟨pa.block, pa.off + 1, none⟩ = some (hdV r1) := by
            obtain ⟨pa, vv, e, _, _, _, hvv, hcc, _⟩ := hO.out.own.wr.at_ (k := 0) (by omega)
            obtain ⟨pa', vw, e', _, _, _, hvw, hcd, _⟩ := hO.out.own.wr.at_ (k := 1) (by omega)
            rw [e] at e'; injection e' with e'; subst e'
            simp at hvv hvw; subst hvv; subst hvw
            rw [add_zero'] at hcc
            rw [show pa.add 1 = ⟨pa.block, pa.off + 1, none⟩ from by unfold Addr.add; simp] at hcd
            exact ⟨pa, e, hcc, hcd⟩
          have hr := hO.out.rows r0 (by simp)
          have hs := hO.out.rows r1 (by simp)
          obtain ⟨rA, m1, c1, rvs⟩ := r0
          obtain ⟨rB, m2, c2, svs⟩ := r1
          simp only at hr1 hr2 hr3 hr hs1 hs2 hs3 hs
          subst hr1; subst hs1
          have R1 : Hid (Rd2 wr rA m1 a) := hr
          have R2 : Hid (Rd2 wr rB m2 b) := hs
          simp only [hdV] at hpc hpd
          clear hr hs ha hb ho1 ho2
          have HRV := Lib.hid (show RdV wr 2 (some pa) 2 [⟨rA, m1, c1, a.flatMap enc2⟩, ⟨rB, m2, c2, b.flatMap enc2⟩] from ⟨hO.out.own.wr.rd, hO.out.rows, fun t ht => by
            rcases List.mem_cons.1 ht with rfl | ht
            · exact one_pairs _
            · rw [List.mem_singleton] at ht; subst ht; exact one_pairs _⟩)
          have hsum : sumV [(⟨rA, m1, c1, a.flatMap enc2⟩ : ItV), ⟨rB, m2, c2, b.flatMap enc2⟩] = m1 + m2 := by simp [sumV]
          have HS := Lib.hid (show [(⟨rA, m1, c1, a.flatMap enc2⟩ : ItV), ⟨rB, m2, c2, b.flatMap enc2⟩].flatMap ItV.vs = (a ++ b).flatMap enc2 by simp)
          have HG := Lib.hid (show (2, v) :: (a ++ b) = F by rw [← HFF.out, pairE, if_neg (by simp)])
          go_wp2_with fail
          have z0 := Ext.cell hw0; have z1 := Ext.cell hw1
          refine Mix.wp_region_mixG 3 5 [0, 0, 3, 1, 0, 1, 2, 0] (fun w' => ∃ x : Ext wr, w' = x.w) (by kernel_rfl) (by kernel_rfl) (InExt.drew _) _ (by rfl) ?_
          simp only [List.take_succ_cons, List.take_zero, List.drop_succ_cons, List.drop_zero, List.cons_append, List.nil_append, Nat.reduceSub]
          refine Mix.wpF_0 ?_
          (refine Mix.wpMix_pure (by rfl) ?_; go_big_quiet_step (fail); refine wpQuiet_nil ?_)
          refine Mix.wpMix_nil ?_
          refine Mix.wpF_0 ?_
          (refine Mix.wpMix_pure (by rfl) ?_; go_big_quiet_step (fail); refine wpQuiet_nil ?_)
          refine Mix.wpMix_nil ?_
          refine Mix.wpF_3 ?_
          (refine Mix.wpMix_read (by rfl) ?_; go_big_quiet_step (fail); refine wpQuiet_nil ?_)
          refine Mix.wpMix_nil ?_
          refine Mix.wpF_0 ?_
          (refine Mix.wpMix_pure (by rfl) ?_; go_big_quiet_step (fail); refine wpQuiet_nil ?_)
          refine Mix.wpMix_nil ?_
          refine Mix.wpF_1 ?_ ?_
          · simp only [List.nil_append]
            have e0 : Below wr.heap.size wr (wr.alloc (.cells #[i64 2, i64 v] 49)).drew := below_drew (below_size.alloc (Nat.le_refl _) _)
            refine Mix.wpMix_chg (by rfl) (fun K hK => ?_)
            go_wp2_with fail
            refine hK _ _ ⟨⟨_, e0⟩, rfl⟩ ?_
            clear hK K
            refine Mix.wpMix_chg (by rfl) (fun K hK => ?_)
            go_wp2_with fail
            refine (concatExpr_c (some pa) 2 _ [(⟨rA, m1, c1, a.flatMap enc2⟩ : ItV), ⟨rB, m2, c2, b.flatMap enc2⟩] _ (by exact HRV.out.below e0) (by omega) (by rw [hsum]; omega)).mono ?_
            rw [hsum, HS.out]
            rintro e w8 ⟨A8, c8, rfl, hw8, hc8, hb8⟩
            have e8 := below_chain e0 e0.size hb8
            have O8 := Lib.hid ((show Own (wr.alloc (.cells #[i64 2, i64 v] 49)).drew wr.heap.size 49 2 (some ⟨wr.heap.size, 0, none⟩) 1 1 ([((2 : Int), v)].flatMap enc2) from Own.fullK (Nat.le_refl _) rfl rfl (by omega)).keep hb8)
            have R8 := Lib.hid (show Rd2 w8 A8 (m1 + m2) (a ++ b) from hw8.rd)
            have hz8 := e8.size
            have E8 := Lib.hid e8
            clear hw8 hb8
            go_wp2_with fail
            refine hK _ _ ⟨⟨_, E8.out⟩, rfl⟩ ?_
            clear hK K
            repeat (first | (refine Mix.wpMix_read (by rfl) ?_; go_big_quiet_step (fail); refine wpQuiet_nil ?_) | (refine Mix.wpMix_pure (by rfl) ?_; go_big_quiet_step (fail); refine wpQuiet_nil ?_))
            refine Mix.wpMix_tail (by rfl) (fun K hK => ?_)
            refine wp_appExpr (by rfl) _ _ (by rfl) (wr.heap.size) _ 1 1 ([((2 : Int), v)].flatMap enc2) (by rfl) (by exact O8.out) A8 (m1 + m2) c8 (a ++ b) (by rfl) (by exact R8.out) (by omega) (by first | exact hz8 | (simp; done) | (simp; omega)) ?_
            intro A9 c9 w9 own9 hb9 hk9 hg9 hz9
            rw [← List.flatMap_append] at own9
            have hcap := own9.cap
            have B9 := Lib.hid (E8.out.trans (hb9.mono (by first | exact Nat.le_refl _ | exact hz9')))
            have O9 := Lib.hid own9
            clear own9 hb9 hk9 hg9 hz9
            go_wp2_with fail
            refine hK _ _ ?_
            clear hK K
            repeat (first | (refine Mix.wpMix_read (by rfl) ?_; go_big_quiet_step (fail); refine wpQuiet_nil ?_) | (refine Mix.wpMix_pure (by rfl) ?_; go_big_quiet_step (fail); refine wpQuiet_nil ?_))
            (refine Mix.wpMix_nil ?_; try simp only [Exit.then])
            go_wp2_with fail
            go_ret
            refine ⟨_, _, _, rfl, by rw [← HG.out]; exact O9.out.wrK.rd, fun a ha => Nat.le_trans (by first | exact hzr | exact Nat.le_trans hzr hz9') (O9.out.block ha).1, hcap, below_chain HB.out hzr B9.out⟩
          · skip
            refine Mix.wpMix_chg (by rfl) (fun K hK => ?_)
            go_wp2_with fail
            refine (concatExpr_c (some pa) 2 _ [(⟨rA, m1, c1, a.flatMap enc2⟩ : ItV), ⟨rB, m2, c2, b.flatMap enc2⟩] _ (by exact HRV.out.below (below_drew below_size)) (by omega) (by rw [hsum]; omega)).mono ?_
            rw [hsum, HS.out]
            rintro e w8 ⟨A8, c8, rfl, hw8, hc8, hb8⟩
            have e8 := below_of_drew hb8
            have R8 := Lib.hid (show Rd2 (w8.alloc (.cells #[i64 2, i64 v] 49)) A8 (m1 + m2) (a ++ b) from Rd.alloc hw8.rd _)
            have hz9' := e8.size
            have E8 := Lib.hid (e8.alloc hz9' (.cells #[i64 2, i64 v] 49))
            have hz8 := E8.out.size
            have O8 := Lib.hid (show Own (w8.alloc (.cells #[i64 2, i64 v] 49)) w8.heap.size 49 2 (some ⟨w8.heap.size, 0, none⟩) 1 1 ([((2 : Int), v)].flatMap enc2) from Own.fullK (Nat.le_refl _) rfl rfl (by omega))
            have E9 := Lib.hid e8
            clear hw8 hb8
            go_wp2_with fail
            refine hK _ _ ⟨⟨_, E9.out⟩, rfl⟩ ?_
            clear hK K
            refine Mix.wpMix_nil ?_
            refine Mix.wpF_nil ?_
            refine Mix.wpMix_chg (by rfl) (fun K hK => ?_)
            go_wp2_with fail
            refine hK _ _ ⟨⟨_, E8.out⟩, rfl⟩ ?_
            clear hK K
            refine Mix.wpMix_tail (by rfl) (fun K hK => ?_)
            refine wp_appExpr (by rfl) _ _ (by rfl) (w8.heap.size) _ 1 1 ([((2 : Int), v)].flatMap enc2) (by rfl) (by exact O8.out) A8 (m1 + m2) c8 (a ++ b) (by rfl) (by exact R8.out) (by omega) (by first | exact hz8 | (simp; done) | (simp; omega)) ?_
            intro A9 c9 w9 own9 hb9 hk9 hg9 hz9
            rw [← List.flatMap_append] at own9
            have hcap := own9.cap
            have B9 := Lib.hid (E8.out.trans (hb9.mono (by first | exact Nat.le_refl _ | exact hz9')))
            have O9 := Lib.hid own9
            clear own9 hb9 hk9 hg9 hz9
            go_wp2_with fail
            refine hK _ _ ?_
            clear hK K
            repeat (first | (refine Mix.wpMix_read (by rfl) ?_; go_big_quiet_step (fail); refine wpQuiet_nil ?_) | (refine Mix.wpMix_pure (by rfl) ?_; go_big_quiet_step (fail); refine wpQuiet_nil ?_))
            (refine Mix.wpMix_nil ?_; try simp only [Exit.then])
            go_wp2_with fail
            go_ret
            refine ⟨_, _, _, rfl, by rw [← HG.out]; exact O9.out.wrK.rd, fun a ha => Nat.le_trans (by first | exact hzr | exact Nat.le_trans hzr hz9') (O9.out.block ha).1, hcap, below_chain HB.out hzr B9.out⟩
        by_cases h5 : t = 5
        · subst h5
          obtain rfl : k = 2 := by rw [← HM.out]; rfl
          obtain ⟨r0, r1, rfl⟩ : ∃ r0 r1, rs = [r0, r1] := len_two hrl.out
          obtain ⟨hr1, hr2, hr3⟩ := hpo.out 0 r0 rfl
          obtain ⟨hs1, hs2, hs3⟩ := hpo.out 1 r1 rfl
          obtain ⟨ho1, ho2⟩ := opd_two HE.out (many_two.2 (.inr rfl))
          rw [ho1] at hr1; rw [ho2] at hs1
          obtain ⟨a, ha⟩ : ∃ a, foldK N (l.take (endM l)) = a := ⟨_, rfl⟩
          obtain ⟨b, hb⟩ : ∃ b, foldK N (l.drop (endM l)) = b := ⟨_, rfl⟩
          rw [ha] at hr1; rw [hb] at hs1
          have HFF := Lib.hid (show pairE (5, v) a b = F by rw [← HF.out, foldK_two (.inr rfl), ha, hb])
          obtain ⟨pa, rfl, hpc, hpd⟩ : ∃ pa, P = some pa ∧ wr.cell? pa = some (hdV r0) ∧ wr.cell? ⟨pa.block, pa.off + 1, none⟩ = some (hdV r1) := by
            obtain ⟨pa, vv, e, _, _, _, hvv, hcc, _⟩ := hO.out.own.wr.at_ (k := 0) (by omega)
            obtain ⟨pa', vw, e', _, _, _, hvw, hcd, _⟩ := hO.out.own.wr.at_ (k := 1) (by omega)
            rw [e] at e'; injection e' with e'; subst e'
            simp at hvv hvw; subst hvv; subst hvw
            rw [add_zero'] at hcc
            rw [show pa.add 1 = ⟨pa.block, pa.off + 1, none⟩ from by unfold Addr.add; simp] at hcd
            exact ⟨pa, e, hcc, hcd⟩
          have hr := hO.out.rows r0 (by simp)
          have hs := hO.out.rows r1 (by simp)
          obtain ⟨rA, m1, c1, rvs⟩ := r0
          obtain ⟨rB, m2, c2, svs⟩ := r1
          simp only at hr1 hr2 hr3 hr hs1 hs2 hs3 hs
          subst hr1; subst hs1
          have R1 : Hid (Rd2 wr rA m1 a) := hr
          have R2 : Hid (Rd2 wr rB m2 b) := hs
          simp only [hdV] at hpc hpd
          clear hr hs ha hb ho1 ho2
          have HRV := Lib.hid (show RdV wr 2 (some pa) 2 [⟨rA, m1, c1, a.flatMap enc2⟩, ⟨rB, m2, c2, b.flatMap enc2⟩] from ⟨hO.out.own.wr.rd, hO.out.rows, fun t ht => by
            rcases List.mem_cons.1 ht with rfl | ht
            · exact one_pairs _
            · rw [List.mem_singleton] at ht; subst ht; exact one_pairs _⟩)
          have hsum : sumV [(⟨rA, m1, c1, a.flatMap enc2⟩ : ItV), ⟨rB, m2, c2, b.flatMap enc2⟩] = m1 + m2 := by simp [sumV]
          have HS := Lib.hid (show [(⟨rA, m1, c1, a.flatMap enc2⟩ : ItV), ⟨rB, m2, c2, b.flatMap enc2⟩].flatMap ItV.vs = (a ++ b).flatMap enc2 by simp)
          obtain ⟨q, hq⟩ : ∃ q, decide (a = b) = q := ⟨_, rfl⟩
          have HQ := Lib.hid hq
          clear hq
          have z0 := Ext.cell hpc; have z1 := Ext.cell hpd
          go_wp2_with fail
          refine Mix.wp_region_mix [0, 0, 3, 0, 0, 3, 1] (fun w' => ∃ x : Ext wr, w' = x.w) (by kernel_rfl) (by kernel_rfl) (InExt.drew _) ?_
          repeat (first | (refine Mix.wpMix_read (by rfl) ?_; go_big_quiet_step (fail); refine wpQuiet_nil ?_) | (refine Mix.wpMix_pure (by rfl) ?_; go_big_quiet_step (fail); refine wpQuiet_nil ?_))
          refine Mix.wpMix_chg (by rfl) (fun K hK => ?_)
          go_wp2_with fail
          refine (equalEx_c rA rB m1 m2 c1 c2 a b q _ (by exact R1.out.drew) (by exact R2.out.drew) (by omega) HQ.out).mono ?_
          rintro e w7 ⟨rfl, k7, hk7⟩
          have e7 : Below wr.heap.size wr w7 := by rw [hk7]; exact below_drewN (below_drew below_size) _
          have E7 := Lib.hid e7
          clear hk7
          go_wp2_with fail
          refine hK _ _ ⟨⟨_, E7.out⟩, rfl⟩ ?_
          clear hK K
          (refine Mix.wpMix_nil ?_; try simp only [Exit.then])
          clear z0 z1
          have HB := Lib.hid (below_chain HB.out hzr E7.out)
          have HRV := Lib.hid (HRV.out.below E7.out)
          have hw0 := keepc E7.out hw0
          have hw1 := keepc E7.out hw1
          have hzr := HB.out.size
          cases q
          · have HG := Lib.hid (show (5, v) :: (a ++ b) = F by rw [← HFF.out, pairE, if_neg (by simpa using HQ.out)])
            go_wp2_with fail
            have z0 := Ext.cell hw0; have z1 := Ext.cell hw1
            refine Mix.wp_region_mixG 3 5 [0, 0, 3, 1, 0, 1, 2, 0] (fun w' => ∃ x : Ext w7, w' = x.w) (by kernel_rfl) (by kernel_rfl) (InExt.drew _) _ (by rfl) ?_
            simp only [List.take_succ_cons, List.take_zero, List.drop_succ_cons, List.drop_zero, List.cons_append, List.nil_append, Nat.reduceSub]
            refine Mix.wpF_0 ?_
            (refine Mix.wpMix_pure (by rfl) ?_; go_big_quiet_step (fail); refine wpQuiet_nil ?_)
            refine Mix.wpMix_nil ?_
            refine Mix.wpF_0 ?_
            (refine Mix.wpMix_pure (by rfl) ?_; go_big_quiet_step (fail); refine wpQuiet_nil ?_)
            refine Mix.wpMix_nil ?_
            refine Mix.wpF_3 ?_
            (refine Mix.wpMix_read (by rfl) ?_; go_big_quiet_step (fail); refine wpQuiet_nil ?_)
            refine Mix.wpMix_nil ?_
            refine Mix.wpF_0 ?_
            (refine Mix.wpMix_pure (by rfl) ?_; go_big_quiet_step (fail); refine wpQuiet_nil ?_)
            refine Mix.wpMix_nil ?_
            refine Mix.wpF_1 ?_ ?_
            · simp only [List.nil_append]
              have e0 : Below w7.heap.size w7 (w7.alloc (.cells #[i64 5, i64 v] 49)).drew := below_drew (below_size.alloc (Nat.le_refl _) _)
              refine Mix.wpMix_chg (by rfl) (fun K hK => ?_)
              go_wp2_with fail
              refine hK _ _ ⟨⟨_, e0⟩, rfl⟩ ?_
              clear hK K
              refine Mix.wpMix_chg (by rfl) (fun K hK => ?_)
              go_wp2_with fail
              refine (concatExpr_c (some pa) 2 _ [(⟨rA, m1, c1, a.flatMap enc2⟩ : ItV), ⟨rB, m2, c2, b.flatMap enc2⟩] _ (by exact HRV.out.below e0) (by omega) (by rw [hsum]; omega)).mono ?_
              rw [hsum, HS.out]
              rintro e w8 ⟨A8, c8, rfl, hw8, hc8, hb8⟩
              have e8 := below_chain e0 e0.size hb8
              have O8 := Lib.hid ((show Own (w7.alloc (.cells #[i64 5, i64 v] 49)).drew w7.heap.size 49 2 (some ⟨w7.heap.size, 0, none⟩) 1 1 ([((5 : Int), v)].flatMap enc2) from Own.fullK (Nat.le_refl _) rfl rfl (by omega)).keep hb8)
              have R8 := Lib.hid (show Rd2 w8 A8 (m1 + m2) (a ++ b) from hw8.rd)
              have hz8 := e8.size
              have E8 := Lib.hid e8
              clear hw8 hb8
              go_wp2_with fail
              refine hK _ _ ⟨⟨_, E8.out⟩, rfl⟩ ?_
              clear hK K
              repeat (first | (refine Mix.wpMix_read (by rfl) ?_; go_big_quiet_step (fail); refine wpQuiet_nil ?_) | (refine Mix.wpMix_pure (by rfl) ?_; go_big_quiet_step (fail); refine wpQuiet_nil ?_))
              refine Mix.wpMix_tail (by rfl) (fun K hK => ?_)
              refine wp_appExpr (by rfl) _ _ (by rfl) (w7.heap.size) _ 1 1 ([((5 : Int), v)].flatMap enc2) (by rfl) (by exact O8.out) A8 (m1 + m2) c8 (a ++ b) (by rfl) (by exact R8.out) (by omega) (by first | exact hz8 | (simp; done) | (simp; omega)) ?_
              intro A9 c9 w9 own9 hb9 hk9 hg9 hz9
              rw [← List.flatMap_append] at own9
              have hcap := own9.cap
              have B9 := Lib.hid (E8.out.trans (hb9.mono (by first | exact Nat.le_refl _ | exact hz9')))
              have O9 := Lib.hid own9
              clear own9 hb9 hk9 hg9 hz9
              go_wp2_with fail
              refine hK _ _ ?_
              clear hK K
              repeat (first | (refine Mix.wpMix_read (by rfl) ?_; go_big_quiet_step (fail); refine wpQuiet_nil ?_) | (refine Mix.wpMix_pure (by rfl) ?_; go_big_quiet_step (fail); refine wpQuiet_nil ?_))
              (refine Mix.wpMix_nil ?_; try simp only [Exit.then])
              go_wp2_with fail
              go_ret
              refine ⟨_, _, _, rfl, by rw [← HG.out]; exact O9.out.wrK.rd, fun a ha => Nat.le_trans (by first | exact hzr | exact Nat.le_trans hzr hz9') (O9.out.block ha).1, hcap, below_chain HB.out hzr B9.out⟩
            · skip
              refine Mix.wpMix_chg (by rfl) (fun K hK => ?_)
              go_wp2_with fail
              refine (concatExpr_c (some pa) 2 _ [(⟨rA, m1, c1, a.flatMap enc2⟩ : ItV), ⟨rB, m2, c2, b.flatMap enc2⟩] _ (by exact HRV.out.below (below_drew below_size)) (by omega) (by rw [hsum]; omega)).mono ?_
              rw [hsum, HS.out]
              rintro e w8 ⟨A8, c8, rfl, hw8, hc8, hb8⟩
              have e8 := below_of_drew hb8
              have R8 := Lib.hid (show Rd2 (w8.alloc (.cells #[i64 5, i64 v] 49)) A8 (m1 + m2) (a ++ b) from Rd.alloc hw8.rd _)
              have hz9' := e8.size
              have E8 := Lib.hid (e8.alloc hz9' (.cells #[i64 5, i64 v] 49))
              have hz8 := E8.out.size
              have O8 := Lib.hid (show Own (w8.alloc (.cells #[i64 5, i64 v] 49)) w8.heap.size 49 2 (some ⟨w8.heap.size, 0, none⟩) 1 1 ([((5 : Int), v)].flatMap enc2) from Own.fullK (Nat.le_refl _) rfl rfl (by omega))
              have E9 := Lib.hid e8
              clear hw8 hb8
              go_wp2_with fail
              refine hK _ _ ⟨⟨_, E9.out⟩, rfl⟩ ?_
              clear hK K
              refine Mix.wpMix_nil ?_
              refine Mix.wpF_nil ?_
              refine Mix.wpMix_chg (by rfl) (fun K hK => ?_)
              go_wp2_with fail
              refine hK _ _ ⟨⟨_, E8.out⟩, rfl⟩ ?_
              clear hK K
              refine Mix.wpMix_tail (by rfl) (fun K hK => ?_)
              refine wp_appExpr (by rfl) _ _ (by rfl) (w8.heap.size) _ 1 1 ([((5 : Int), v)].flatMap enc2) (by rfl) (by exact O8.out) A8 (m1 + m2) c8 (a ++ b) (by rfl) (by exact R8.out) (by omega) (by first | exact hz8 | (simp; done) | (simp; omega)) ?_
              intro A9 c9 w9 own9 hb9 hk9 hg9 hz9
              rw [← List.flatMap_append] at own9
              have hcap := own9.cap
              have B9 := Lib.hid (E8.out.trans (hb9.mono (by first | exact Nat.le_refl _ | exact hz9')))
              have O9 := Lib.hid own9
              clear own9 hb9 hk9 hg9 hz9
              go_wp2_with fail
              refine hK _ _ ?_
              clear hK K
              repeat (first | (refine Mix.wpMix_read (by rfl) ?_; go_big_quiet_step (fail); refine wpQuiet_nil ?_) | (refine Mix.wpMix_pure (by rfl) ?_; go_big_quiet_step (fail); refine wpQuiet_nil ?_))
              (refine Mix.wpMix_nil ?_; try simp only [Exit.then])
              go_wp2_with fail
              go_ret
              refine ⟨_, _, _, rfl, by rw [← HG.out]; exact O9.out.wrK.rd, fun a ha => Nat.le_trans (by first | exact hzr | exact Nat.le_trans hzr hz9') (O9.out.block ha).1, hcap, below_chain HB.out hzr B9.out⟩
          · have HG := Lib.hid (show [(2, 0), (0, 0), (0, 0)] = F by rw [← HFF.out, pairE, if_pos ⟨rfl, by simpa using HQ.out⟩])
            go_wp2_with fail
            go_ret
            rw [← HG.out]
            exact ⟨_, _, _, rfl, rd_newE [(2, 0), (0, 0), (0, 0)] _ rfl rfl, fun a ha => by injection ha with ha; subst ha; exact hzr, Nat.le_refl _, HB.out.alloc hzr _⟩
        have g5 : (t == 5) = false := by simpa using h5
        have hl0 := isE_leaf HE.out (many_zero (k := t) (by omega) (by omega))
        subst hl0
        obtain rfl : k = 0 := by rw [← HM.out]; exact many_zero (by omega) (by omega)
        obtain rfl := List.length_eq_zero_iff.1 hrl.out
        have HG := Lib.hid (show (t, v) :: [] = F by rw [← HF.out, foldK_leaf (by simp; omega) (by simp; omega)])
        have HRV := Lib.hid (show RdV wr 2 P 0 [] from ⟨hO.out.own.wr.rd, hO.out.rows, fun t ht => by cases ht⟩)
        have hsum : sumV [] = 0 := rfl
        have HS := Lib.hid (show ([] : List ItV).flatMap ItV.vs = ([] : List (Int × Int)).flatMap enc2 from rfl)
        go_wp2_with fail
        have z0 := Ext.cell hw0; have z1 := Ext.cell hw1
        refine Mix.wp_region_mixG 3 5 [0, 0, 3, 1, 0, 1, 2, 0] (fun w' => ∃ x : Ext wr, w' = x.w) (by kernel_rfl) (by kernel_rfl) (InExt.drew _) _ (by rfl) ?_
        simp only [List.take_succ_cons, List.take_zero, List.drop_succ_cons, List.drop_zero, List.cons_append, List.nil_append, Nat.reduceSub]
        refine Mix.wpF_0 ?_
        (refine Mix.wpMix_pure (by rfl) ?_; go_big_quiet_step (fail); refine wpQuiet_nil ?_)
        refine Mix.wpMix_nil ?_
        refine Mix.wpF_0 ?_
        (refine Mix.wpMix_pure (by rfl) ?_; go_big_quiet_step (fail); refine wpQuiet_nil ?_)
        refine Mix.wpMix_nil ?_
        refine Mix.wpF_3 ?_
        (refine Mix.wpMix_read (by rfl) ?_; go_big_quiet_step (fail); refine wpQuiet_nil ?_)
        refine Mix.wpMix_nil ?_
        refine Mix.wpF_0 ?_
        (refine Mix.wpMix_pure (by rfl) ?_; go_big_quiet_step (fail); refine wpQuiet_nil ?_)
        refine Mix.wpMix_nil ?_
        refine Mix.wpF_1 ?_ ?_
        · simp only [List.nil_append]
          have e0 : Below wr.heap.size wr (wr.alloc (.cells #[i64 t, i64 v] 49)).drew := below_drew (below_size.alloc (Nat.le_refl _) _)
          refine Mix.wpMix_chg (by rfl) (fun K hK => ?_)
          go_wp2_with fail
          refine hK _ _ ⟨⟨_, e0⟩, rfl⟩ ?_
          clear hK K
          refine Mix.wpMix_chg (by rfl) (fun K hK => ?_)
          go_wp2_with fail
          refine (concatExpr_c (P) 0 _ [] _ (by exact HRV.out.below e0) (by omega) (by rw [hsum]; omega)).mono ?_
          rw [hsum, HS.out]
          rintro e w8 ⟨A8, c8, rfl, hw8, hc8, hb8⟩
          have e8 := below_chain e0 e0.size hb8
          have O8 := Lib.hid ((show Own (wr.alloc (.cells #[i64 t, i64 v] 49)).drew wr.heap.size 49 2 (some ⟨wr.heap.size, 0, none⟩) 1 1 ([((t : Int), v)].flatMap enc2) from Own.fullK (Nat.le_refl _) rfl rfl (by omega)).keep hb8)
          have R8 := Lib.hid (show Rd2 w8 A8 (0) ([]) from hw8.rd)
          have hz8 := e8.size
          have E8 := Lib.hid e8
          clear hw8 hb8
          go_wp2_with fail
          refine hK _ _ ⟨⟨_, E8.out⟩, rfl⟩ ?_
          clear hK K
          repeat (first | (refine Mix.wpMix_read (by rfl) ?_; go_big_quiet_step (fail); refine wpQuiet_nil ?_) | (refine Mix.wpMix_pure (by rfl) ?_; go_big_quiet_step (fail); refine wpQuiet_nil ?_))
          refine Mix.wpMix_tail (by rfl) (fun K hK => ?_)
          refine wp_appExpr (by rfl) _ _ (by rfl) (wr.heap.size) _ 1 1 ([((t : Int), v)].flatMap enc2) (by rfl) (by exact O8.out) A8 (0) c8 ([]) (by rfl) (by exact R8.out) (by omega) (by first | exact hz8 | (simp; done) | (simp; omega)) ?_
          intro A9 c9 w9 own9 hb9 hk9 hg9 hz9
          rw [← List.flatMap_append] at own9
          have hcap := own9.cap
          have B9 := Lib.hid (E8.out.trans (hb9.mono (by first | exact Nat.le_refl _ | exact hz9')))
          have O9 := Lib.hid own9
          clear own9 hb9 hk9 hg9 hz9
          go_wp2_with fail
          refine hK _ _ ?_
          clear hK K
          repeat (first | (refine Mix.wpMix_read (by rfl) ?_; go_big_quiet_step (fail); refine wpQuiet_nil ?_) | (refine Mix.wpMix_pure (by rfl) ?_; go_big_quiet_step (fail); refine wpQuiet_nil ?_))
          (refine Mix.wpMix_nil ?_; try simp only [Exit.then])
          go_wp2_with fail
          go_ret
          refine ⟨_, _, _, rfl, by rw [← HG.out]; exact O9.out.wrK.rd, fun a ha => Nat.le_trans (by first | exact hzr | exact Nat.le_trans hzr hz9') (O9.out.block ha).1, hcap, below_chain HB.out hzr B9.out⟩
        · skip
          refine Mix.wpMix_chg (by rfl) (fun K hK => ?_)
          go_wp2_with fail
          refine (concatExpr_c (P) 0 _ [] _ (by exact HRV.out.below (below_drew below_size)) (by omega) (by rw [hsum]; omega)).mono ?_
          rw [hsum, HS.out]
          rintro e w8 ⟨A8, c8, rfl, hw8, hc8, hb8⟩
          have e8 := below_of_drew hb8
          have R8 := Lib.hid (show Rd2 (w8.alloc (.cells #[i64 t, i64 v] 49)) A8 (0) ([]) from Rd.alloc hw8.rd _)
          have hz9' := e8.size
          have E8 := Lib.hid (e8.alloc hz9' (.cells #[i64 t, i64 v] 49))
          have hz8 := E8.out.size
          have O8 := Lib.hid (show Own (w8.alloc (.cells #[i64 t, i64 v] 49)) w8.heap.size 49 2 (some ⟨w8.heap.size, 0, none⟩) 1 1 ([((t : Int), v)].flatMap enc2) from Own.fullK (Nat.le_refl _) rfl rfl (by omega))
          have E9 := Lib.hid e8
          clear hw8 hb8
          go_wp2_with fail
          refine hK _ _ ⟨⟨_, E9.out⟩, rfl⟩ ?_
          clear hK K
          refine Mix.wpMix_nil ?_
          refine Mix.wpF_nil ?_
          refine Mix.wpMix_chg (by rfl) (fun K hK => ?_)
          go_wp2_with fail
          refine hK _ _ ⟨⟨_, E8.out⟩, rfl⟩ ?_
          clear hK K
          refine Mix.wpMix_tail (by rfl) (fun K hK => ?_)
          refine wp_appExpr (by rfl) _ _ (by rfl) (w8.heap.size) _ 1 1 ([((t : Int), v)].flatMap enc2) (by rfl) (by exact O8.out) A8 (0) c8 ([]) (by rfl) (by exact R8.out) (by omega) (by first | exact hz8 | (simp; done) | (simp; omega)) ?_
          intro A9 c9 w9 own9 hb9 hk9 hg9 hz9
          rw [← List.flatMap_append] at own9
          have hcap := own9.cap
          have B9 := Lib.hid (E8.out.trans (hb9.mono (by first | exact Nat.le_refl _ | exact hz9')))
          have O9 := Lib.hid own9
          clear own9 hb9 hk9 hg9 hz9
          go_wp2_with fail
          refine hK _ _ ?_
          clear hK K
          repeat (first | (refine Mix.wpMix_read (by rfl) ?_; go_big_quiet_step (fail); refine wpQuiet_nil ?_) | (refine Mix.wpMix_pure (by rfl) ?_; go_big_quiet_step (fail); refine wpQuiet_nil ?_))
          (refine Mix.wpMix_nil ?_; try simp only [Exit.then])
          go_wp2_with fail
          go_ret
          refine ⟨_, _, _, rfl, by rw [← HG.out]; exact O9.out.wrK.rd, fun a ha => Nat.le_trans (by first | exact hzr | exact Nat.le_trans hzr hz9') (O9.out.block ha).1, hcap, below_chain HB.out hzr B9.out⟩
end Go.Proofs.Ytecpbgmcednpoaa
