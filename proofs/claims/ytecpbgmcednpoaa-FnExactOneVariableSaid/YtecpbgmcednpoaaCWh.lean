/-
  Contracts of chapter 22: a program's copy through a function, its commands one by one; the function that renames.
-/
import Derived.Test.YtecpbgmcednpoaaCWf
import Derived.Test.YtecpbgmcednpoaaCWg
namespace Go.Proofs.Ytecpbgmcednpoaa
open Go.RowKit

set_option maxHeartbeats 4000000 in
set_option maxRecDepth 100000 in
theorem mappedR_c (V : Value) (G : Cmd → Cmd) (A : Option Addr) (n c : Nat) (ps : List Ct) (D : List Cmd) (w : World) (h : RdS w (sgCS A n ps)) (hn : n ≤ 100) (hD : ps.map datC = D)
    (HC : ∀ t ∈ ps, ∀ wz, Below w.heap.size w wz → Calls Try.prog 36 #[.agg #[i64 t.kd, i64 t.vr, i64 t.ln, .slice t.A t.n t.c], V] wz (CmdOut (G (datC t)) wz)) :
    Calls Try.prog 35 #[.slice A n c, .func (.func 36) #[] #[V]] w fun e w' => ∃ (A' : Option Addr) (c' : Nat) (js : List Ct), e = .returned (.slice A' n c') ∧ OwnS w' w.heap.size 46 4 A' n c' (js.flatMap hdC) (js.map bodyC) ∧ js.map datC = D.map G ∧ (∀ t ∈ js, t.n ≤ 1000000) ∧ Below w.heap.size w w' := by
  have HL := Lib.hid (RdCS.len h)
  have HDL := Lib.hid (show D.length = n by rw [← hD, List.length_map, RdCS.len h])
  have HD := Lib.hid hD
  have H := Lib.hid h; have HCC := Lib.hid HC; clear h hD HC
  go_enter Try.func35, Try.ntmps35
  go_wp2_with fail
  go_loopw [5, 11] (fun ov iv wr => ∃ (i cc : Nat) (O : Option Addr) (js : List Ct), i ≤ n ∧ iv = .int .i64 i ∧ ov = .slice O i cc ∧ Hid (OwnS wr w.heap.size 46 4 O i cc (js.flatMap hdC) (js.map bodyC)) ∧ Hid (js.map datC = (D.take i).map G) ∧ Hid (∀ t ∈ js, t.n ≤ 1000000) ∧ Below w.heap.size w wr) (fun _ iv _ => n - (intOf iv).toNat)
  case atStart => exact ⟨0, 0, some ⟨w.heap.size, 0, none⟩, [], by omega, rfl, rfl, OwnS.nil (Own.litK (Nat.le_refl _)), rfl, (fun t ht => by cases ht), below_size.alloc (Nat.le_refl _) _⟩
  case round =>
    obtain ⟨i, cc, O, js, hin, rfl, rfl, hO, hj, hj1, hb⟩ := hrel
    have HB := Lib.hid hb
    have hzr := hb.size
    by_cases hlt : i < n
    · obtain ⟨ad, x, rfl, hab, hx, hc0, hc1, hc2, hc3, hrd⟩ := RdCS.at_ (H.out.below hb) hlt
      have HDX := Lib.hid (show D[i]? = some (datC x) by rw [← HD.out, List.getElem?_map, hx]; rfl)
      have HCX := Lib.hid (HCC.out x (List.mem_of_getElem? hx))
      obtain ⟨kd, vr, ln, xA, xn, xc, xs⟩ := x
      simp only at hc0 hc1 hc2 hc3 HCX
      obtain ⟨w4, hw4⟩ : ∃ w4, wr.alloc (.cells #[.int .i64 kd, .int .i64 vr, .int .i64 ln, .slice xA xn xc] 46) = w4 := ⟨_, rfl⟩
      have E4 := Lib.hid (show Below wr.heap.size wr w4 by rw [← hw4]; exact below_size.alloc (Nat.le_refl _) _)
      have K4 := Lib.hid (show Blk w4 wr.heap.size 46 #[.int .i64 kd, .int .i64 vr, .int .i64 ln, .slice xA xn xc] by rw [← hw4]; exact Blk.new _ _ _)
      have hz4 := E4.out.size
      have x0 : w4.cell? ⟨wr.heap.size, 0, none⟩ = some (.int .i64 kd) := K4.out.cell 0
      have x1 : w4.cell? ⟨wr.heap.size, 1, none⟩ = some (.int .i64 vr) := K4.out.cell 1
      have x2 : w4.cell? ⟨wr.heap.size, 2, none⟩ = some (.int .i64 ln) := K4.out.cell 2
      have x3 : w4.cell? ⟨wr.heap.size, 3, none⟩ = some (.slice xA xn xc) := K4.out.cell 3
      clear hb hrd hx
      go_wp2_with fail
      refine (HCX.out w4 (below_chain HB.out hzr E4.out)).mono ?_
      rintro e w5 ⟨t', rfl, hd, hw, hn', hcp, hb5⟩
      have E5 := Lib.hid (below_chain E4.out hz4 hb5)
      have W5 := Lib.hid (hw.wider (lo' := wr.heap.size) (hi' := w5.heap.size) hz4 (Nat.le_refl _)); have T5 := Lib.hid hd
      have hz5 := E5.out.size
      clear hd hw hb5 x0 x1 x2 x3 hc0 hc1 hc2 hc3
      go_wp2_with (at_builtin; refine wp_appCmd (by rfl) _ _ (by rfl) w.heap.size O i cc js (by rfl) wr hO.out hzr (by exact E5.out.alloc hz5 _) w5.heap.size t' (by rfl) (by exact Blk.new _ _ _) (by exact (W5.out.alloc _).wider (Nat.le_refl _) (by simp)) (by omega) ?_; intro A6 c6 w6 own6 hb6 hz6 hg6 hk6)
      have O6 := Lib.hid own6; have B6 := Lib.hid hb6
      clear own6 hb6 hz6 hg6 hk6
      go_wp2_with fail
      go_roundw
      case rel =>
        refine ⟨i + 1, c6, A6, js ++ [t'], by omega, by go_num, rfl, O6.out, ?_, ?_, ?_⟩
        · show (js ++ [t']).map datC = (D.take (i + 1)).map G
          rw [take_at HDX.out, List.map_append, List.map_append, hj.out, List.map_singleton, List.map_singleton, T5.out]
        · intro t ht
          rcases List.mem_append.1 ht with ht | ht
          · exact hj1.out t ht
          · rw [List.mem_singleton] at ht; subst ht; exact hn'
        · exact (below_chain HB.out hzr (E5.out.alloc hz5 _)).trans B6.out
      case measure => simp [intOf]; omega
    · obtain rfl : i = n := by omega
      have HJ := Lib.hid (show js.map datC = D.map G by rw [hj.out, List.take_of_length_le (by rw [HDL.out]; exact Nat.le_refl _)])
      clear hb hj
      go_wp2_with fail
      go_ret
      exact ⟨O, cc, js, rfl, hO.out, HJ.out, hj1.out, HB.out⟩
set_option maxHeartbeats 4000000 in
set_option maxRecDepth 100000 in
theorem mappedF_c  (G : Cmd → Cmd) (A : Option Addr) (n c : Nat) (ps : List Ct) (D : List Cmd) (w : World) (h : RdS w (sgCS A n ps)) (hn : n ≤ 100) (hD : ps.map datC = D)
    (HC : ∀ t ∈ ps, ∀ wz, Below w.heap.size w wz → Calls Try.prog 40 #[.agg #[i64 t.kd, i64 t.vr, i64 t.ln, .slice t.A t.n t.c]] wz (CmdOut (G (datC t)) wz)) :
    Calls Try.prog 35 #[.slice A n c, .func (.func 40) #[] #[]] w fun e w' => ∃ (A' : Option Addr) (c' : Nat) (js : List Ct), e = .returned (.slice A' n c') ∧ OwnS w' w.heap.size 46 4 A' n c' (js.flatMap hdC) (js.map bodyC) ∧ js.map datC = D.map G ∧ (∀ t ∈ js, t.n ≤ 1000000) ∧ Below w.heap.size w w' := by
  have HL := Lib.hid (RdCS.len h)
  have HDL := Lib.hid (show D.length = n by rw [← hD, List.length_map, RdCS.len h])
  have HD := Lib.hid hD
  have H := Lib.hid h; have HCC := Lib.hid HC; clear h hD HC
  go_enter Try.func35, Try.ntmps35
  go_wp2_with fail
  go_loopw [5, 11] (fun ov iv wr => ∃ (i cc : Nat) (O : Option Addr) (js : List Ct), i ≤ n ∧ iv = .int .i64 i ∧ ov = .slice O i cc ∧ Hid (OwnS wr w.heap.size 46 4 O i cc (js.flatMap hdC) (js.map bodyC)) ∧ Hid (js.map datC = (D.take i).map G) ∧ Hid (∀ t ∈ js, t.n ≤ 1000000) ∧ Below w.heap.size w wr) (fun _ iv _ => n - (intOf iv).toNat)
  case atStart => exact ⟨0, 0, some ⟨w.heap.size, 0, none⟩, [], by omega, rfl, rfl, OwnS.nil (Own.litK (Nat.le_refl _)), rfl, (fun t ht => by cases ht), below_size.alloc (Nat.le_refl _) _⟩
  case round =>
    obtain ⟨i, cc, O, js, hin, rfl, rfl, hO, hj, hj1, hb⟩ := hrel
    have HB := Lib.hid hb
    have hzr := hb.size
    by_cases hlt : i < n
    · obtain ⟨ad, x, rfl, hab, hx, hc0, hc1, hc2, hc3, hrd⟩ := RdCS.at_ (H.out.below hb) hlt
      have HDX := Lib.hid (show D[i]? = some (datC x) by rw [← HD.out, List.getElem?_map, hx]; rfl)
      have HCX := Lib.hid (HCC.out x (List.mem_of_getElem? hx))
      obtain ⟨kd, vr, ln, xA, xn, xc, xs⟩ := x
      simp only at hc0 hc1 hc2 hc3 HCX
      obtain ⟨w4, hw4⟩ : ∃ w4, wr.alloc (.cells #[.int .i64 kd, .int .i64 vr, .int .i64 ln, .slice xA xn xc] 46) = w4 := ⟨_, rfl⟩
      have E4 := Lib.hid (show Below wr.heap.size wr w4 by rw [← hw4]; exact below_size.alloc (Nat.le_refl _) _)
      have K4 := Lib.hid (show Blk w4 wr.heap.size 46 #[.int .i64 kd, .int .i64 vr, .int .i64 ln, .slice xA xn xc] by rw [← hw4]; exact Blk.new _ _ _)
      have hz4 := E4.out.size
      have x0 : w4.cell? ⟨wr.heap.size, 0, none⟩ = some (.int .i64 kd) := K4.out.cell 0
      have x1 : w4.cell? ⟨wr.heap.size, 1, none⟩ = some (.int .i64 vr) := K4.out.cell 1
      have x2 : w4.cell? ⟨wr.heap.size, 2, none⟩ = some (.int .i64 ln) := K4.out.cell 2
      have x3 : w4.cell? ⟨wr.heap.size, 3, none⟩ = some (.slice xA xn xc) := K4.out.cell 3
      clear hb hrd hx
      go_wp2_with fail
      refine (HCX.out w4 (below_chain HB.out hzr E4.out)).mono ?_
      rintro e w5 ⟨t', rfl, hd, hw, hn', hcp, hb5⟩
      have E5 := Lib.hid (below_chain E4.out hz4 hb5)
      have W5 := Lib.hid (hw.wider (lo' := wr.heap.size) (hi' := w5.heap.size) hz4 (Nat.le_refl _)); have T5 := Lib.hid hd
      have hz5 := E5.out.size
      clear hd hw hb5 x0 x1 x2 x3 hc0 hc1 hc2 hc3
      go_wp2_with (at_builtin; refine wp_appCmd (by rfl) _ _ (by rfl) w.heap.size O i cc js (by rfl) wr hO.out hzr (by exact E5.out.alloc hz5 _) w5.heap.size t' (by rfl) (by exact Blk.new _ _ _) (by exact (W5.out.alloc _).wider (Nat.le_refl _) (by simp)) (by omega) ?_; intro A6 c6 w6 own6 hb6 hz6 hg6 hk6)
      have O6 := Lib.hid own6; have B6 := Lib.hid hb6
      clear own6 hb6 hz6 hg6 hk6
      go_wp2_with fail
      go_roundw
      case rel =>
        refine ⟨i + 1, c6, A6, js ++ [t'], by omega, by go_num, rfl, O6.out, ?_, ?_, ?_⟩
        · show (js ++ [t']).map datC = (D.take (i + 1)).map G
          rw [take_at HDX.out, List.map_append, List.map_append, hj.out, List.map_singleton, List.map_singleton, T5.out]
        · intro t ht
          rcases List.mem_append.1 ht with ht | ht
          · exact hj1.out t ht
          · rw [List.mem_singleton] at ht; subst ht; exact hn'
        · exact (below_chain HB.out hzr (E5.out.alloc hz5 _)).trans B6.out
      case measure => simp [intOf]; omega
    · obtain rfl : i = n := by omega
      have HJ := Lib.hid (show js.map datC = D.map G by rw [hj.out, List.take_of_length_le (by rw [HDL.out]; exact Nat.le_refl _)])
      clear hb hj
      go_wp2_with fail
      go_ret
      exact ⟨O, cc, js, rfl, hO.out, HJ.out, hj1.out, HB.out⟩
set_option maxHeartbeats 4000000 in
set_option maxRecDepth 100000 in
theorem mappedC_c  (G : Cmd → Cmd) (A : Option Addr) (n c : Nat) (ps : List Ct) (D : List Cmd) (w : World) (h : RdS w (sgCS A n ps)) (hn : n ≤ 100) (hD : ps.map datC = D)
    (HC : ∀ t ∈ ps, ∀ wz, Below w.heap.size w wz → Calls Try.prog 85 #[.agg #[i64 t.kd, i64 t.vr, i64 t.ln, .slice t.A t.n t.c]] wz (CmdOut (G (datC t)) wz)) :
    Calls Try.prog 35 #[.slice A n c, .func (.func 85) #[] #[]] w fun e w' => ∃ (A' : Option Addr) (c' : Nat) (js : List Ct), e = .returned (.slice A' n c') ∧ OwnS w' w.heap.size 46 4 A' n c' (js.flatMap hdC) (js.map bodyC) ∧ js.map datC = D.map G ∧ (∀ t ∈ js, t.n ≤ 1000000) ∧ Below w.heap.size w w' := by
  have HL := Lib.hid (RdCS.len h)
  have HDL := Lib.hid (show D.length = n by rw [← hD, List.length_map, RdCS.len h])
  have HD := Lib.hid hD
  have H := Lib.hid h; have HCC := Lib.hid HC; clear h hD HC
  go_enter Try.func35, Try.ntmps35
  go_wp2_with fail
  go_loopw [5, 11] (fun ov iv wr => ∃ (i cc : Nat) (O : Option Addr) (js : List Ct), i ≤ n ∧ iv = .int .i64 i ∧ ov = .slice O i cc ∧ Hid (OwnS wr w.heap.size 46 4 O i cc (js.flatMap hdC) (js.map bodyC)) ∧ Hid (js.map datC = (D.take i).map G) ∧ Hid (∀ t ∈ js, t.n ≤ 1000000) ∧ Below w.heap.size w wr) (fun _ iv _ => n - (intOf iv).toNat)
  case atStart => exact ⟨0, 0, some ⟨w.heap.size, 0, none⟩, [], by omega, rfl, rfl, OwnS.nil (Own.litK (Nat.le_refl _)), rfl, (fun t ht => by cases ht), below_size.alloc (Nat.le_refl _) _⟩
  case round =>
    obtain ⟨i, cc, O, js, hin, rfl, rfl, hO, hj, hj1, hb⟩ := hrel
    have HB := Lib.hid hb
    have hzr := hb.size
    by_cases hlt : i < n
    · obtain ⟨ad, x, rfl, hab, hx, hc0, hc1, hc2, hc3, hrd⟩ := RdCS.at_ (H.out.below hb) hlt
      have HDX := Lib.hid (show D[i]? = some (datC x) by rw [← HD.out, List.getElem?_map, hx]; rfl)
      have HCX := Lib.hid (HCC.out x (List.mem_of_getElem? hx))
      obtain ⟨kd, vr, ln, xA, xn, xc, xs⟩ := x
      simp only at hc0 hc1 hc2 hc3 HCX
      obtain ⟨w4, hw4⟩ : ∃ w4, wr.alloc (.cells #[.int .i64 kd, .int .i64 vr, .int .i64 ln, .slice xA xn xc] 46) = w4 := ⟨_, rfl⟩
      have E4 := Lib.hid (show Below wr.heap.size wr w4 by rw [← hw4]; exact below_size.alloc (Nat.le_refl _) _)
      have K4 := Lib.hid (show Blk w4 wr.heap.size 46 #[.int .i64 kd, .int .i64 vr, .int .i64 ln, .slice xA xn xc] by rw [← hw4]; exact Blk.new _ _ _)
      have hz4 := E4.out.size
      have x0 : w4.cell? ⟨wr.heap.size, 0, none⟩ = some (.int .i64 kd) := K4.out.cell 0
      have x1 : w4.cell? ⟨wr.heap.size, 1, none⟩ = some (.int .i64 vr) := K4.out.cell 1
      have x2 : w4.cell? ⟨wr.heap.size, 2, none⟩ = some (.int .i64 ln) := K4.out.cell 2
      have x3 : w4.cell? ⟨wr.heap.size, 3, none⟩ = some (.slice xA xn xc) := K4.out.cell 3
      clear hb hrd hx
      go_wp2_with fail
      refine (HCX.out w4 (below_chain HB.out hzr E4.out)).mono ?_
      rintro e w5 ⟨t', rfl, hd, hw, hn', hcp, hb5⟩
      have E5 := Lib.hid (below_chain E4.out hz4 hb5)
      have W5 := Lib.hid (hw.wider (lo' := wr.heap.size) (hi' := w5.heap.size) hz4 (Nat.le_refl _)); have T5 := Lib.hid hd
      have hz5 := E5.out.size
      clear hd hw hb5 x0 x1 x2 x3 hc0 hc1 hc2 hc3
      go_wp2_with (at_builtin; refine wp_appCmd (by rfl) _ _ (by rfl) w.heap.size O i cc js (by rfl) wr hO.out hzr (by exact E5.out.alloc hz5 _) w5.heap.size t' (by rfl) (by exact Blk.new _ _ _) (by exact (W5.out.alloc _).wider (Nat.le_refl _) (by simp)) (by omega) ?_; intro A6 c6 w6 own6 hb6 hz6 hg6 hk6)
      have O6 := Lib.hid own6; have B6 := Lib.hid hb6
      clear own6 hb6 hz6 hg6 hk6
      go_wp2_with fail
      go_roundw
      case rel =>
        refine ⟨i + 1, c6, A6, js ++ [t'], by omega, by go_num, rfl, O6.out, ?_, ?_, ?_⟩
        · show (js ++ [t']).map datC = (D.take (i + 1)).map G
          rw [take_at HDX.out, List.map_append, List.map_append, hj.out, List.map_singleton, List.map_singleton, T5.out]
        · intro t ht
          rcases List.mem_append.1 ht with ht | ht
          · exact hj1.out t ht
          · rw [List.mem_singleton] at ht; subst ht; exact hn'
        · exact (below_chain HB.out hzr (E5.out.alloc hz5 _)).trans B6.out
      case measure => simp [intOf]; omega
    · obtain rfl : i = n := by omega
      have HJ := Lib.hid (show js.map datC = D.map G by rw [hj.out, List.take_of_length_le (by rw [HDL.out]; exact Nat.le_refl _)])
      clear hb hj
      go_wp2_with fail
      go_ret
      exact ⟨O, cc, js, rfl, hO.out, HJ.out, hj1.out, HB.out⟩
set_option maxHeartbeats 4000000 in
set_option maxRecDepth 100000 in
theorem mappedO_c (V V2 : Value) (G : Cmd → Cmd) (A : Option Addr) (n c : Nat) (ps : List Ct) (D : List Cmd) (w : World) (h : RdS w (sgCS A n ps)) (hn : n ≤ 100) (hD : ps.map datC = D)
    (HC : ∀ t ∈ ps, ∀ wz, Below w.heap.size w wz → Calls Try.prog 69 #[.agg #[i64 t.kd, i64 t.vr, i64 t.ln, .slice t.A t.n t.c], V, V2] wz (CmdOut (G (datC t)) wz)) :
    Calls Try.prog 35 #[.slice A n c, .func (.func 69) #[] #[V, V2]] w fun e w' => ∃ (A' : Option Addr) (c' : Nat) (js : List Ct), e = .returned (.slice A' n c') ∧ OwnS w' w.heap.size 46 4 A' n c' (js.flatMap hdC) (js.map bodyC) ∧ js.map datC = D.map G ∧ (∀ t ∈ js, t.n ≤ 1000000) ∧ Below w.heap.size w w' := by
  have HL := Lib.hid (RdCS.len h)
  have HDL := Lib.hid (show D.length = n by rw [← hD, List.length_map, RdCS.len h])
  have HD := Lib.hid hD
  have H := Lib.hid h; have HCC := Lib.hid HC; clear h hD HC
  go_enter Try.func35, Try.ntmps35
  go_wp2_with fail
  go_loopw [5, 11] (fun ov iv wr => ∃ (i cc : Nat) (O : Option Addr) (js : List Ct), i ≤ n ∧ iv = .int .i64 i ∧ ov = .slice O i cc ∧ Hid (OwnS wr w.heap.size 46 4 O i cc (js.flatMap hdC) (js.map bodyC)) ∧ Hid (js.map datC = (D.take i).map G) ∧ Hid (∀ t ∈ js, t.n ≤ 1000000) ∧ Below w.heap.size w wr) (fun _ iv _ => n - (intOf iv).toNat)
  case atStart => exact ⟨0, 0, some ⟨w.heap.size, 0, none⟩, [], by omega, rfl, rfl, OwnS.nil (Own.litK (Nat.le_refl _)), rfl, (fun t ht => by cases ht), below_size.alloc (Nat.le_refl _) _⟩
  case round =>
    obtain ⟨i, cc, O, js, hin, rfl, rfl, hO, hj, hj1, hb⟩ := hrel
    have HB := Lib.hid hb
    have hzr := hb.size
    by_cases hlt : i < n
    · obtain ⟨ad, x, rfl, hab, hx, hc0, hc1, hc2, hc3, hrd⟩ := RdCS.at_ (H.out.below hb) hlt
      have HDX := Lib.hid (show D[i]? = some (datC x) by rw [← HD.out, List.getElem?_map, hx]; rfl)
      have HCX := Lib.hid (HCC.out x (List.mem_of_getElem? hx))
      obtain ⟨kd, vr, ln, xA, xn, xc, xs⟩ := x
      simp only at hc0 hc1 hc2 hc3 HCX
      obtain ⟨w4, hw4⟩ : ∃ w4, wr.alloc (.cells #[.int .i64 kd, .int .i64 vr, .int .i64 ln, .slice xA xn xc] 46) = w4 := ⟨_, rfl⟩
      have E4 := Lib.hid (show Below wr.heap.size wr w4 by rw [← hw4]; exact below_size.alloc (Nat.le_refl _) _)
      have K4 := Lib.hid (show Blk w4 wr.heap.size 46 #[.int .i64 kd, .int .i64 vr, .int .i64 ln, .slice xA xn xc] by rw [← hw4]; exact Blk.new _ _ _)
      have hz4 := E4.out.size
      have x0 : w4.cell? ⟨wr.heap.size, 0, none⟩ = some (.int .i64 kd) := K4.out.cell 0
      have x1 : w4.cell? ⟨wr.heap.size, 1, none⟩ = some (.int .i64 vr) := K4.out.cell 1
      have x2 : w4.cell? ⟨wr.heap.size, 2, none⟩ = some (.int .i64 ln) := K4.out.cell 2
      have x3 : w4.cell? ⟨wr.heap.size, 3, none⟩ = some (.slice xA xn xc) := K4.out.cell 3
      clear hb hrd hx
      go_wp2_with fail
      refine (HCX.out w4 (below_chain HB.out hzr E4.out)).mono ?_
      rintro e w5 ⟨t', rfl, hd, hw, hn', hcp, hb5⟩
      have E5 := Lib.hid (below_chain E4.out hz4 hb5)
      have W5 := Lib.hid (hw.wider (lo' := wr.heap.size) (hi' := w5.heap.size) hz4 (Nat.le_refl _)); have T5 := Lib.hid hd
      have hz5 := E5.out.size
      clear hd hw hb5 x0 x1 x2 x3 hc0 hc1 hc2 hc3
      go_wp2_with (at_builtin; refine wp_appCmd (by rfl) _ _ (by rfl) w.heap.size O i cc js (by rfl) wr hO.out hzr (by exact E5.out.alloc hz5 _) w5.heap.size t' (by rfl) (by exact Blk.new _ _ _) (by exact (W5.out.alloc _).wider (Nat.le_refl _) (by simp)) (by omega) ?_; intro A6 c6 w6 own6 hb6 hz6 hg6 hk6)
      have O6 := Lib.hid own6; have B6 := Lib.hid hb6
      clear own6 hb6 hz6 hg6 hk6
      go_wp2_with fail
      go_roundw
      case rel =>
        refine ⟨i + 1, c6, A6, js ++ [t'], by omega, by go_num, rfl, O6.out, ?_, ?_, ?_⟩
        · show (js ++ [t']).map datC = (D.take (i + 1)).map G
          rw [take_at HDX.out, List.map_append, List.map_append, hj.out, List.map_singleton, List.map_singleton, T5.out]
        · intro t ht
          rcases List.mem_append.1 ht with ht | ht
          · exact hj1.out t ht
          · rw [List.mem_singleton] at ht; subst ht; exact hn'
        · exact (below_chain HB.out hzr (E5.out.alloc hz5 _)).trans B6.out
      case measure => simp [intOf]; omega
    · obtain rfl : i = n := by omega
      have HJ := Lib.hid (show js.map datC = D.map G by rw [hj.out, List.take_of_length_le (by rw [HDL.out]; exact Nat.le_refl _)])
      clear hb hj
      go_wp2_with fail
      go_ret
      exact ⟨O, cc, js, rfl, hO.out, HJ.out, hj1.out, HB.out⟩
end Go.Proofs.Ytecpbgmcednpoaa
