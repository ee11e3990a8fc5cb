/-
  Contracts of chapter 11 (recursive functions): which functions the reference takes.
-/
import Derived.Test.YtnoapoaajidncaaDoorC11b
import Derived.BigQuiet
namespace Go.Proofs.YtnoapoaajidncaaDoor
open Go.RowKit
open FTr

theorem addrZf (a : Addr) : a.add 0 = a := by simp [Addr.add]
theorem addr1f (a : Addr) : a.add 1 = ⟨a.block, a.off + 1, none⟩ := by rw [Addr.add, if_neg (by omega)]
/-- the arity of a part, in memory -/
theorem part_ar {w : World} {ad : Addr} {n k i : Nat} {f : List Nd3} {x : Nd3} {ts : List FTr} {t : FTr} {r : List Nd3} (h : Rd3 w (some ad) n f) (hf : f.drop k = flat (mk x ts) ++ r) (ht : ts[i]? = some t) :
    ∃ p : Nat, p < n ∧ (plT (k + 1) ts)[i]? = some p ∧ w.cell? ⟨(ad.add (p * 3)).block, (ad.add (p * 3)).off + 1, none⟩ = some (i64 (ar t)) := by
  obtain ⟨r', hr'⟩ := part_at hf ht
  have hl := h.len
  have hp : k + 1 + (flats (ts.take i)).length < n := by
    have := congrArg List.length hr'
    rw [List.length_drop, List.length_append, hl] at this
    have := flat_pos t
    omega
  obtain ⟨_, y, e, _, hy, _, hc, _⟩ := h.at_ hp
  injection e with e; subst e
  rw [root_at hr'] at hy
  injection hy with hy; subst hy
  exact ⟨_, hp, plT_at ht, hc⟩
theorem place_at {w : World} {A : Option Addr} {m k i p : Nat} {ts : List FTr} (h : RdI w A m ((plT (k + 1) ts).map Int.ofNat)) (hp : (plT (k + 1) ts)[i]? = some p) (hi : i < m) : ∃ ad, A = some ad ∧ w.cell? (ad.add i) = some (.int .i64 p) := by
  obtain ⟨ad, x, e, _, hx, hc⟩ := h.at_ hi
  rw [List.getElem?_map, hp] at hx
  injection hx with hx; subst hx
  exact ⟨ad, e, hc⟩
theorem all_ar {a : Int} : ∀ us : List FTr, decide (us.map ar = List.replicate us.length a) = us.all fun u => decide (ar u = a)
  | [] => rfl
  | u :: us => by
    have ih := all_ar (a := a) us
    rw [List.map_cons, List.length_cons, List.replicate_succ, List.all_cons, ← ih]
    by_cases h : ar u = a
    · simp [h]
    · simp [h]
noncomputable def wholeF (f : List Nd3) : Bool := @decide (IsF f) (Classical.propDecidable _)
theorem wholeF_t {f : List Nd3} : wholeF f = true ↔ IsF f := by unfold wholeF; exact @decide_eq_true_iff _ (Classical.propDecidable _)
theorem wholeF_f {f : List Nd3} : wholeF f = false ↔ ¬ IsF f := by unfold wholeF; exact @decide_eq_false_iff_not _ (Classical.propDecidable _)
set_option maxHeartbeats 4000000 in
set_option maxRecDepth 100000 in
theorem l11Fits_c (A : Option Addr) (n cp : Nat) (f : List Nd3) (k : Nat) (t0 : FTr) (r : List Nd3) (q : Bool) (w : World) (h : Rd3 w A n f) (hn : n ≤ 1000000000) (hf : f.drop k = flat t0 ++ r) (ho : okS t0 = true) (hq : fitT t0 = q) :
    Calls Tryd.prog 47 #[.slice A n cp, .int .i64 k] w fun e w' => e = .returned (.bool q) ∧ Below w.heap.size w w' := by
  obtain ⟨x, ts⟩ := t0
  have hL := h.len
  have hkl := congrArg List.length hf
  rw [List.length_drop, List.length_append, hL, flat_mk, List.length_cons] at hkl
  have hroot : f[k]? = some x := root_at hf
  have hkn : k < n := by omega
  obtain ⟨ad, x', rfl, hab, hx, hc0, hc1, hc2⟩ := h.at_ hkn
  rw [hroot] at hx
  injection hx with hx; subst hx
  obtain ⟨ho1, ho2, ho3⟩ := okS_iff.1 ho
  have hbd := nodeF_bd ho1
  have hm5 := manyF_le x ho1
  have HF := Lib.hid hf; have HO := Lib.hid ho; have H := Lib.hid h
  obtain ⟨kk, a, i⟩ := x
  simp only at hc0 hc1 hc2 hbd
  have hfit : decide (ts.map ar = folF (kk, a, i)) = q := hq
  have K0 := Lib.hid (show ∀ (w2 : World), Below (w.alloc (.cells #[.int .i64 kk, .int .i64 a, .int .i64 i] 37)).heap.size (w.alloc (.cells #[.int .i64 kk, .int .i64 a, .int .i64 i] 37)) w2 → w2.cell? ⟨w.heap.size, 0, none⟩ = some (i64 kk) ∧ w2.cell? ⟨w.heap.size, 1, none⟩ = some (i64 a) ∧ w2.cell? ⟨w.heap.size, 2, none⟩ = some (i64 i) from fun w2 hb => ⟨keepc hb (new_cell _ _ _ 0), keepc hb (new_cell _ _ _ 1), keepc hb (new_cell _ _ _ 2)⟩)
  clear h hf ho ho1 ho3 hroot hq hkl
  unfold folF at hfit
  have ho2 : ts.length = (if kk = 3 then i :: List.replicate i.toNat a else if kk = 4 then [a - 1, a + 1] else if kk = 5 then [a + 1] else []).length := ho2
  simp only at hfit
  by_cases k3 : kk = 3
  · subst k3
    rw [if_pos rfl] at hfit ho2
    match ts, ho2, HF, HO, hfit with
    | t :: us, ho2, HF, HO, hfit =>
    rw [List.length_cons, List.length_cons, List.length_replicate] at ho2
    have hul : us.length = i.toNat := by omega
    have HQ := Lib.hid (show (decide (ar t = i) && us.all fun u => decide (ar u = a)) = q by
      rw [← all_ar, hul, ← hfit, List.map_cons]
      by_cases h1 : ar t = i
      · simp [h1]
      · simp [h1])
    obtain ⟨m, hm⟩ : ∃ m, (t :: us).length = m := ⟨_, rfl⟩
    have HLN := Lib.hid hm
    have hm2 : (m : Int) = i + 1 := by rw [← hm, List.length_cons]; omega
    clear hfit hm
    obtain ⟨b, hb⟩ : ∃ b, ar t = b := ⟨_, rfl⟩
    go_enter Tryd.func47, Tryd.ntmps47
    go_wp2_with (first | (go_at_call 33; refine (l11Parts_c (some ad) n cp f k _ _ r _ (H.out.alloc _) hn HF.out HO.out _ HLN.out).mono ?_; rintro e w2 ⟨A2, c2, rfl, hA2, hb2⟩; have RA := Lib.hid hA2; have E2 := Lib.hid hb2; obtain ⟨y0, y1, y2⟩ := K0.out _ hb2; have BB := Lib.hid ((below_size.alloc (Nat.le_refl _) _).trans (hb2.mono (by simp))); have RD := Lib.hid ((H.out.alloc _).below hb2); clear hA2 hb2))
    obtain ⟨p0, hp0, hpl0, hpc0⟩ := part_ar RD.out HF.out (i := 0) (t := t) rfl
    obtain ⟨pd, rfl, hpd⟩ := place_at RA.out hpl0 (by omega)
    rw [addrZf] at hpd
    rw [hb] at hpc0 HQ
    by_cases hbi : b = i
    · have gb : (b != i) = false := by simpa using hbi
      have HQ' := Lib.hid (show (us.all fun u => decide (ar u = a)) = q by rw [← HQ.out]; simp [hbi])
      clear HQ hpl0
      go_quiet (fail)
      go_wp2_with fail
      go_loopw [7] (fun jv wr => ∃ j : Nat, 1 ≤ j ∧ j ≤ m ∧ jv = .int .i64 j ∧ Hid (((t :: us).drop j).all (fun u => decide (ar u = a)) = q) ∧ Qt w2 wr) (fun jv _ => m - (intOf jv).toNat)
      case atStart => exact ⟨1, by omega, by omega, rfl, HQ'.out, ⟨_, rfl⟩⟩
      case round =>
        obtain ⟨j, hj1, hj, rfl, hr, ⟨mm, rfl⟩⟩ := hrel
        by_cases hlt : j < m
        · obtain ⟨u, hu⟩ : ∃ u, (t :: us)[j]? = some u := ⟨_, List.getElem?_eq_getElem (by rw [HLN.out]; exact hlt)⟩
          obtain ⟨p, hp, hpl, hpc⟩ := part_ar RD.out HF.out hu
          obtain ⟨pe, e, hpe⟩ := place_at RA.out hpl hlt
          injection e with e; subst e
          have HS := Lib.hid (show (decide (ar u = a) && ((t :: us).drop (j + 1)).all fun u => decide (ar u = a)) = q by rw [← hr.out, drop_at hu, List.all_cons])
          obtain ⟨c, hc⟩ : ∃ c, ar u = c := ⟨_, rfl⟩
          rw [hc] at hpc HS
          clear hr hu hpl hc
          by_cases hca : c = a
          · have gc : (c != a) = false := by simpa using hca
            have HG := Lib.hid (show ((t :: us).drop (j + 1)).all (fun u => decide (ar u = a)) = q by rw [← HS.out]; simp [hca])
            clear HS
            go_wp2_with fail
            go_quiet (fail)
            go_wp2_with fail
            go_roundw
            case rel => exact ⟨j + 1, by omega, by omega, by go_num, HG.out, (by first | exact Qt.refl _ | exact ⟨_, rfl⟩ | exact Qt.drewN ⟨_, rfl⟩ _)⟩
            case measure => simp [intOf]; omega
          · have gc : (c != a) = true := by simpa using hca
            have HG := Lib.hid (show false = q by rw [← HS.out]; simp [hca])
            clear HS
            go_wp2_with fail
            go_quiet (fail)
            go_wp2_with fail
            go_ret
            exact ⟨by rw [← HG.out]; rfl, below_drewN (below_drewN BB.out mm) _⟩
        · have HG := Lib.hid (show true = q by rw [← hr.out, List.drop_eq_nil_of_le (by rw [HLN.out]; omega)]; rfl)
          clear hr
          go_wp2_with fail
          go_ret
          exact ⟨by rw [← HG.out]; rfl, below_drewN BB.out _⟩
    · have gb : (b != i) = true := by simpa using hbi
      have HG := Lib.hid (show false = q by rw [← HQ.out]; simp [hbi])
      clear HQ hpl0
      go_quiet (fail)
      go_wp2_with fail
      go_ret
      exact ⟨by rw [← HG.out]; rfl, below_drewN BB.out _⟩
  have g3 : (kk == 3) = false := by simpa using k3
  by_cases k4 : kk = 4
  · subst k4
    rw [if_neg (by decide), if_pos rfl] at hfit ho2
    match ts, ho2, HF, HO, hfit with
    | [t, u], ho2, HF, HO, hfit =>
    have HLN := Lib.hid (show [t, u].length = 2 from rfl)
    clear g3
    obtain ⟨b, hb⟩ : ∃ b, ar t = b := ⟨_, rfl⟩
    obtain ⟨c, hc⟩ : ∃ c, ar u = c := ⟨_, rfl⟩
    have HQ := Lib.hid (show ((b == a - 1) && (c == a + 1)) = q by
      rw [← hfit, List.map_cons, List.map_cons, List.map_nil, hb, hc]
      by_cases h1 : b = a - 1 <;> by_cases h2 : c = a + 1 <;> simp [h1, h2])
    clear hfit
    obtain ⟨u1, hu1⟩ : ∃ u1, (b == a - 1) = u1 := ⟨_, rfl⟩
    obtain ⟨u2, hu2⟩ : ∃ u2, (c == a + 1) = u2 := ⟨_, rfl⟩
    rw [hu1, hu2] at HQ
    cases u1 <;> cases u2
    all_goals
      have HG := HQ
      clear HQ
      go_enter Tryd.func47, Tryd.ntmps47
      go_wp2_with (first | (go_at_call 33; refine (l11Parts_c (some ad) n cp f k _ _ r _ (H.out.alloc _) hn HF.out HO.out _ HLN.out).mono ?_; rintro e w2 ⟨A2, c2, rfl, hA2, hb2⟩; have RA := Lib.hid hA2; have E2 := Lib.hid hb2; obtain ⟨y0, y1, y2⟩ := K0.out _ hb2; have BB := Lib.hid ((below_size.alloc (Nat.le_refl _) _).trans (hb2.mono (by simp))); have RD := Lib.hid ((H.out.alloc _).below hb2); clear hA2 hb2))
      obtain ⟨p0, hp0, hpl0, hpc0⟩ := part_ar RD.out HF.out (i := 0) (t := t) rfl
      obtain ⟨p1, hp1, hpl1, hpc1⟩ := part_ar RD.out HF.out (i := 1) (t := u) rfl
      obtain ⟨pd, rfl, hpd⟩ := place_at RA.out hpl0 (by omega)
      obtain ⟨pe, e, hpe⟩ := place_at RA.out hpl1 (by omega)
      injection e with e; subst e
      have hpe' := hpe
      rw [addr1f] at hpe'
      rw [addrZf] at hpd
      rw [hb] at hpc0
      rw [hc] at hpc1
      clear hpl0 hpl1
      go_quiet (fail)
      go_wp2_with fail
      go_ret
      exact ⟨by rw [← HG.out]; rfl, below_drewN BB.out _⟩
  have g4 : (kk == 4) = false := by simpa using k4
  by_cases k5 : kk = 5
  · subst k5
    rw [if_neg (by decide), if_neg (by decide), if_pos rfl] at hfit ho2
    match ts, ho2, HF, HO, hfit with
    | [t], ho2, HF, HO, hfit =>
    have HLN := Lib.hid (show [t].length = 1 from rfl)
    clear g3 g4
    obtain ⟨b, hb⟩ : ∃ b, ar t = b := ⟨_, rfl⟩
    have HQ := Lib.hid (show (b == a + 1) = q by
      rw [← hfit, List.map_cons, List.map_nil, hb]
      by_cases h1 : b = a + 1 <;> simp [h1])
    clear hfit
    obtain ⟨u1, hu1⟩ : ∃ u1, (b == a + 1) = u1 := ⟨_, rfl⟩
    rw [hu1] at HQ
    cases u1
    all_goals
      have HG := HQ
      clear HQ
      go_enter Tryd.func47, Tryd.ntmps47
      go_wp2_with (first | (go_at_call 33; refine (l11Parts_c (some ad) n cp f k _ _ r _ (H.out.alloc _) hn HF.out HO.out _ HLN.out).mono ?_; rintro e w2 ⟨A2, c2, rfl, hA2, hb2⟩; have RA := Lib.hid hA2; have E2 := Lib.hid hb2; obtain ⟨y0, y1, y2⟩ := K0.out _ hb2; have BB := Lib.hid ((below_size.alloc (Nat.le_refl _) _).trans (hb2.mono (by simp))); have RD := Lib.hid ((H.out.alloc _).below hb2); clear hA2 hb2))
      obtain ⟨p0, hp0, hpl0, hpc0⟩ := part_ar RD.out HF.out (i := 0) (t := t) rfl
      obtain ⟨pd, rfl, hpd⟩ := place_at RA.out hpl0 (by omega)
      rw [addrZf] at hpd
      rw [hb] at hpc0
      clear hpl0
      go_quiet (fail)
      go_wp2_with fail
      go_ret
      exact ⟨by rw [← HG.out]; rfl, below_drewN BB.out _⟩
  have g5 : (kk == 5) = false := by simpa using k5
  rw [if_neg k3, if_neg k4, if_neg k5] at hfit ho2
  have hts : ts = [] := List.length_eq_zero_iff.1 ho2
  subst hts
  have HLN := Lib.hid (show ([] : List FTr).length = 0 from rfl)
  have HG := Lib.hid (show true = q from hfit)
  clear hfit k3 k4 k5
  go_enter Tryd.func47, Tryd.ntmps47
  go_wp2_with (first | (go_at_call 33; refine (l11Parts_c (some ad) n cp f k _ _ r _ (H.out.alloc _) hn HF.out HO.out _ HLN.out).mono ?_; rintro e w2 ⟨A2, c2, rfl, hA2, hb2⟩; have RA := Lib.hid hA2; have E2 := Lib.hid hb2; obtain ⟨y0, y1, y2⟩ := K0.out _ hb2; have BB := Lib.hid ((below_size.alloc (Nat.le_refl _) _).trans (hb2.mono (by simp))); have RD := Lib.hid ((H.out.alloc _).below hb2); clear hA2 hb2))
  go_ret
  exact ⟨by rw [← HG.out]; rfl, BB.out⟩
set_option maxHeartbeats 2000000 in
set_option maxRecDepth 100000 in
theorem l11Whole_c (A : Option Addr) (n cp : Nat) (f : List Nd3) (q : Bool) (w : World) (h : Rd3 w A n f) (hn : n ≤ 1000000000) (hq : wholeF f = q) :
    Calls Tryd.prog 32 #[.slice A n cp] w fun e w' => e = .returned (.bool q) ∧ Below w.heap.size w w' := by
  have hL := h.len
  have HL := Lib.hid hL; have H := Lib.hid h; have HQ := Lib.hid hq
  clear h hq
  by_cases hn0 : n = 0
  · subst hn0
    have hf : f = [] := List.length_eq_zero_iff.1 hL
    subst hf
    have HG := Lib.hid (show false = q by
      rw [← HQ.out]; symm; rw [wholeF_f]
      rintro ⟨t, ht, e⟩
      have := flat_pos t; rw [← e] at this; simp at this)
    go_enter Tryd.func32, Tryd.ntmps32
    go_wp2_with fail
    go_ret
    exact ⟨by rw [← HG.out]; rfl, below_size⟩
  have e0 : ((n : Int) == 0) = false := by simp; omega
  obtain ⟨Z, hZ⟩ : ∃ Z, (nsE (f.drop 0) 1).map (0 + ·) = Z := ⟨_, rfl⟩
  have HZ := Lib.hid hZ
  cases Z with
  | none =>
    have HG := Lib.hid (show false = q by
      rw [← HQ.out]; symm; rw [wholeF_f]
      rintro ⟨t, ht, e⟩
      rw [e] at hZ
      have := nsE_at (f := flat t) (k := 0) (r := []) (by simp) (okT_okS _ ht)
      rw [this] at hZ; cases hZ)
    clear hZ
    go_enter Tryd.func32, Tryd.ntmps32
    go_wp2_with (first | (go_at_call 46; refine (l11End_c _ n cp f 0 none _ H.out hn (by omega) HZ.out).mono ?_; rintro e w4 ⟨⟨u4, rfl⟩, ⟨m4, rfl⟩⟩))
    go_ret
    exact ⟨by rw [← HG.out]; rfl, below_drewN below_size _⟩
  | some z =>
    obtain ⟨p, hp, hpz⟩ := Option.map_eq_some_iff.1 hZ
    obtain ⟨ts, r, hl1, hl2, hl3, hl4⟩ := nsE_tree hp
    obtain ⟨t, rfl⟩ : ∃ t, ts = [t] := by
      match ts, hl1 with
      | [t], _ => exact ⟨t, rfl⟩
    rw [List.drop_zero, flats_cons, flats_nil, List.append_nil] at hl4
    rw [flats_cons, flats_nil, List.append_nil] at hl3
    have hok : okS t = true := hl2 t (by simp)
    have hzl : (flat t).length = z := by omega
    by_cases hzn : z = n
    · have hr : r = [] := by
        have := congrArg List.length hl4
        rw [List.length_append, hL, hzl] at this
        exact List.length_eq_zero_iff.1 (by omega)
      subst hr
      rw [List.append_nil] at hl4
      have HT := Lib.hid (show ∀ k, k < n → ∃ s r, (subsT t)[k]? = some s ∧ okS s = true ∧ f.drop k = flat s ++ r by
        intro k hk
        have hk' : k < (subsT t).length := by rw [subsT_len, hzl, hzn]; exact hk
        obtain ⟨r, hr⟩ := subsT_at t k _ (List.getElem?_eq_getElem hk')
        exact ⟨_, r, List.getElem?_eq_getElem hk', okS_subs t hok _ (List.getElem_mem hk'), by rw [hl4]; exact hr⟩)
      have HG := Lib.hid (show ((subsT t).drop 0).all fitT = q by
        rw [← HQ.out, List.drop_zero]
        cases hb : (subsT t).all fitT
        · symm; rw [wholeF_f]
          rintro ⟨t', ht', e⟩
          rw [hl4] at e
          have := flat_inj t t' [] [] hok (okT_okS _ ht') (by rw [List.append_nil, List.append_nil]; exact e)
          rw [← this.1] at ht'
          have h2 := ((okT_subs t).1 ht').2
          rw [List.all_eq_true.2 h2] at hb; cases hb
        · symm; rw [wholeF_t]
          exact ⟨t, (okT_subs t).2 ⟨hok, fun s hs => List.all_eq_true.1 hb s hs⟩, hl4⟩)
      have HSL := Lib.hid (show (subsT t).length = n by rw [subsT_len, hzl, hzn])
      have ez : ((z : Int) != (n : Int)) = false := by simp; omega
      clear hZ hp hpz hl1 hl2 hl3 hl4 HQ hL
      go_enter Tryd.func32, Tryd.ntmps32
      go_wp2_with (first | (go_at_call 46; refine (l11End_c _ n cp f 0 (some z) _ H.out hn (by omega) HZ.out).mono ?_; rintro e w4 ⟨he, ⟨m4, rfl⟩⟩; simp only at he; subst he))
      go_loopw [5] (fun jv wr => ∃ k : Nat, k ≤ n ∧ jv = .int .i64 k ∧ Hid (((subsT t).drop k).all fitT = q) ∧ Below w.heap.size w wr) (fun jv _ => n - (intOf jv).toNat)
      case atStart => exact ⟨0, by omega, rfl, HG.out, below_drewN below_size _⟩
      case round =>
        obtain ⟨k, hk, rfl, hr, hb⟩ := hrel
        have HB := Lib.hid hb
        by_cases hlt : k < n
        · obtain ⟨s, r, hs, hso, hsf⟩ := HT.out k hlt
          obtain ⟨o, ho⟩ : ∃ o, fitT s = o := ⟨_, rfl⟩
          have HS := Lib.hid (show (o && ((subsT t).drop (k + 1)).all fitT) = q by rw [← hr.out, drop_at hs, List.all_cons, ho])
          have HSO := Lib.hid hso; have HSF := Lib.hid hsf; have HO := Lib.hid ho
          clear hr hs hso hsf ho hb
          cases o
          · have HX := Lib.hid (show false = q from HS.out)
            go_wp2_with (first | (go_at_call 47; refine (l11Fits_c _ n cp f k s r false _ (H.out.below HB.out) hn HSF.out HSO.out HO.out).mono ?_; rintro e w5 ⟨rfl, hb5⟩))
            go_ret
            exact ⟨by rw [← HX.out]; rfl, below_chain HB.out HB.out.size hb5⟩
          · have HX := Lib.hid (show ((subsT t).drop (k + 1)).all fitT = q from HS.out)
            go_wp2_with (first | (go_at_call 47; refine (l11Fits_c _ n cp f k s r true _ (H.out.below HB.out) hn HSF.out HSO.out HO.out).mono ?_; rintro e w5 ⟨rfl, hb5⟩))
            go_roundw
            case rel => exact ⟨k + 1, by omega, by go_num, HX.out, below_chain HB.out HB.out.size hb5⟩
            case measure => simp [intOf]; omega
        · have HX := Lib.hid (show true = q by rw [← hr.out, List.drop_eq_nil_of_le (by rw [HSL.out]; omega)]; rfl)
          clear hr hb
          go_wp2_with fail
          go_ret
          exact ⟨by rw [← HX.out]; rfl, HB.out⟩
    · have ez : ((z : Int) != (n : Int)) = true := by simp; omega
      have HG := Lib.hid (show false = q by
        rw [← HQ.out]; symm; rw [wholeF_f]
        rintro ⟨t', ht', e⟩
        rw [hl4] at e
        have := flat_inj t t' r [] hok (okT_okS _ ht') (by rw [List.append_nil]; exact e)
        rw [this.2, List.append_nil] at hl4
        exact hzn (by rw [← hzl, ← hl4, hL]))
      clear hZ hp hpz hl1 hl2 hl3 hl4 HQ hL
      go_enter Tryd.func32, Tryd.ntmps32
      go_wp2_with (first | (go_at_call 46; refine (l11End_c _ n cp f 0 (some z) _ H.out hn (by omega) HZ.out).mono ?_; rintro e w4 ⟨he, ⟨m4, rfl⟩⟩; simp only at he; subst he))
      go_ret
      exact ⟨by rw [← HG.out]; rfl, below_drewN below_size _⟩
theorem l11Is_c (A : Option Addr) (n cp : Nat) (f : List Nd3) (q : Bool) (w : World) (h : Rd3 w A n f) (hn : n ≤ 1000000000) (hq : validF f = q) :
    Calls Tryd.prog 19 #[.slice A n cp] w fun e w' => e = .returned (.bool q) ∧ Below w.heap.size w w' := by
  have hL := h.len
  have HQ := Lib.hid (show (decide ((n : Int) ≤ 60) && wholeF f) = q by
    rw [← hq]
    cases hb : validF f
    · cases hw : wholeF f
      · simp
      · by_cases h6 : n ≤ 60
        · rw [(validF_iff (f := f)).2 ⟨by omega, wholeF_t.1 hw⟩] at hb; cases hb
        · simp; omega
    · obtain ⟨h1, h2⟩ := validF_iff.1 hb
      rw [wholeF_t.2 h2]; simp; omega)
  have H := Lib.hid h
  clear h hq
  by_cases h6 : (n : Int) ≤ 60
  · have e6 : decide ((n : Int) ≤ 60) = true := decide_eq_true h6
    rw [e6, Bool.true_and] at HQ
    go_enter Tryd.func19, Tryd.ntmps19
    go_wp2_with (first | (go_at_call 32; refine (l11Whole_c _ n cp f q _ H.out hn HQ.out).mono ?_; rintro e w5 ⟨rfl, hb5⟩))
    go_ret
    exact ⟨rfl, hb5⟩
  · have e6 : decide ((n : Int) ≤ 60) = false := decide_eq_false h6
    rw [e6, Bool.false_and] at HQ
    go_enter Tryd.func19, Tryd.ntmps19
    go_wp2_with fail
    go_ret
    exact ⟨by rw [← HQ.out]; rfl, below_size⟩
end Go.Proofs.YtnoapoaajidncaaDoor
