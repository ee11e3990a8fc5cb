/-
  Contracts of chapter 22: copies of programs, orders.
-/
import Derived.Test.YtecpbgmcednpoaaCWc
import Derived.Test.YtecpbgmcednpoaaOwnS
import Derived.Test.YtecpbgmcednpoaaC12b
namespace Go.Proofs.Ytecpbgmcednpoaa
open Go.RowKit

theorem hdC_one (t : Ct) : ∀ u ∈ hdC t, u.oneCell' = true := by intro u hu; simp [hdC] at hu; rcases hu with rfl | rfl | rfl | rfl <;> rfl
/-- a command more, out of a block that was just laid -/
theorem wp_appCmd {ops : Array Oper} {rest : List Oper} {o : Oper} {a : Act} {w : World} {Q : Exit → Act → World → Prop} (hgd : o.guard = none) (s x : Operand)
    (ho : o.op = .call { callee := .builtin .append, args := #[s, x], argTypes := #[27, 27] })
    (B : Nat) (A : Option Addr) (n c : Nat) (ps : List Ct) (hs : a.eval s = .slice A n c) (w0 : World) (h0 : OwnS w0 B 46 4 A n c (ps.flatMap hdC) (ps.map bodyC)) (hB0 : B ≤ w0.heap.size) (hb : Below w0.heap.size w0 w)
    (g : Nat) (t : Ct) (hx : a.eval x = .slice (some ⟨g, 0, none⟩) 1 1) (hg : Blk w g 46 #[i64 t.kd, i64 t.vr, i64 t.ln, .slice t.A t.n t.c])
    (hw : Wr w w0.heap.size w.heap.size t.A (t.n * 2) (t.xs.flatMap enc2)) (hlen : n ≤ 1000000000)
    (h : ∀ A' cap w', OwnS w' B 46 4 A' (n + 1) cap ((ps ++ [t]).flatMap hdC) ((ps ++ [t]).map bodyC) → Below B w w' → w.heap.size ≤ w'.heap.size → (∃ g', A' = some ⟨g', 0, none⟩) → (∀ b, b < w.heap.size → (∀ ad', A = some ad' → ad'.block ≠ b) → w'.heap[b]? = w.heap[b]?) →
      wpList Try.prog ops Q rest (a.put o.dst (.slice A' (n + 1) cap)) w') : wpList Try.prog ops Q (o :: rest) a w := by
  refine wp_app hgd s x 27 46 (.agg #[.int .i64 0, .int .i64 0, .int .i64 0, .slice none 0 0]) 4 48 ho Try.underlying27 info_Command rfl (by omega) B A n c (ps.flatMap hdC) hs (h0.keep hb).own ⟨g, 0, none⟩ 1 1 (hdC t) hx (by omega) (by rfl) ?_ (hdC_one t) (by omega) (by omega) (by have := hb.size; omega) ?_
  · intro j u hj
    rw [head_add, hg.cell j, ← hj, hdC]
    exact List.getElem?_toArray
  · intro g' cap w3 own3 hb3 hk3 hg3 hz3
    refine h (some ⟨g', 0, none⟩) cap w3 ?_ hb3 hz3 ⟨g', rfl⟩ hk3
    rw [List.flatMap_append, List.map_append]
    have := h0.push (s := bodyC t) hB0 hb hw own3 hk3 hg3 hz3
    simpa using this

/-- a program's copy: what it is, in memory of the call's own -/
def CmdOut (K : Cmd) (w : World) (e : Ending) (w' : World) : Prop := ∃ t' : Ct, e = .returned (.agg #[i64 t'.kd, i64 t'.vr, i64 t'.ln, .slice t'.A t'.n t'.c]) ∧ datC t' = K ∧ Wr w' w.heap.size w'.heap.size t'.A (t'.n * 2) (t'.xs.flatMap enc2) ∧ t'.n ≤ 1000000 ∧ t'.n ≤ t'.c ∧ Below w.heap.size w w'
/-- a program that a call hands back, and a code -/
def CmOut2 (R : List Cmd × Int) (w : World) (e : Ending) (w' : World) : Prop :=
  ∃ A n c ps, e = .returned (.tuple #[.slice A n c, .int .i64 R.2]) ∧ WrS w' w.heap.size w'.heap.size (sgCS A n ps) ∧ (n ≤ 100 ∧ (∀ t ∈ ps, t.n ≤ 1000000) ∧ sumC ps ≤ 300000000 ∧ ps.map datC = R.1) ∧ Below w.heap.size w w'
theorem CmOut2.bad {w w' : World} (k : Int) (h : Below w.heap.size w w') : CmOut2 ([], k) w (.returned (.tuple #[.slice none 0 0, .int .i64 k])) w' :=
  ⟨none, 0, 0, [], rfl, WrS.one (A := none) (n := 0 * 4) (vs := []) Wr.nil, ⟨by omega, by simp, by simp [sumC], rfl⟩, h⟩
theorem sumE_bd : ∀ (ps : List Ct) (m : Nat), (∀ t ∈ ps, t.n ≤ m) → sumE ps ≤ ps.length * m
  | [], m, _ => by simp [sumE]
  | t :: l, m, h => by
    have h1 := h t (by simp)
    have h2 := sumE_bd l m (fun u hu => h u (by simp [hu]))
    rw [sumE, List.length_cons, Nat.succ_mul]; omega
theorem CmOut2.good {w w1 : World} {R : List Cmd} {A : Option Addr} {n c : Nat} {js : List Ct} (h : OwnS w1 w.heap.size 46 4 A n c (js.flatMap hdC) (js.map bodyC)) (hn : n ≤ 100) (hi : ∀ t ∈ js, t.n ≤ 1000000) (hj : js.map datC = R) (hb : Below w.heap.size w w1) : CmOut2 (R, 0) w (.returned (.tuple #[.slice A n c, .int .i64 0])) w1 := by
  have h1 : WrS w1 w.heap.size w1.heap.size (sgCS A n js) := h.wrS
  have h2 := RdCS.len h1.rd
  have h3 := sumE_bd js 1000000 hi
  exact ⟨A, n, c, js, rfl, h1, ⟨hn, hi, by rw [sumC_eq, h2]; rw [h2] at h3; omega, hj⟩, hb⟩
def CmdsOut (D : List Cmd) (B : Nat) (n : Nat) (A : Option Addr) (c : Nat) (js : List Ct) (w' : World) : Prop := OwnS w' B 46 4 A n c (js.flatMap hdC) (js.map bodyC) ∧ js.map datC = D
set_option maxHeartbeats 4000000 in
set_option maxRecDepth 100000 in
theorem l22Own_c (A : Option Addr) (n c : Nat) (ps : List Ct) (D : List Cmd) (w : World) (h : RdS w (sgCS A n ps)) (hn : n ≤ 1000000000) (hi : ∀ t ∈ ps, t.n ≤ 1000000) (hD : ps.map datC = D) :
    Calls Try.prog 33 #[.slice A n c] w fun e w' => ∃ A' c' js, e = .returned (.slice A' n c') ∧ CmdsOut D w.heap.size n A' c' js w' ∧ (∀ t ∈ js, t.n ≤ 1000000) ∧ Below w.heap.size w w' := by
  have HL := Lib.hid (RdCS.len h)
  have HDL := Lib.hid (show D.length = n by rw [← hD, List.length_map, RdCS.len h])
  have HD := Lib.hid hD
  have H := Lib.hid h; have HI := Lib.hid hi; clear h hi hD
  go_enter Try.func33, Try.ntmps33
  go_wp2_with fail
  go_loopw [3, 4] (fun ov iv wr => ∃ (i cc : Nat) (O : Option Addr) (js : List Ct), i ≤ n ∧ iv = .int .i64 i ∧ ov = .slice O i cc ∧ Hid (OwnS wr w.heap.size 46 4 O i cc (js.flatMap hdC) (js.map bodyC)) ∧ Hid (js.map datC = D.take i) ∧ Hid (∀ t ∈ js, t.n ≤ 1000000) ∧ Below w.heap.size w wr) (fun _ iv _ => n - (intOf iv).toNat)
  case atStart => exact ⟨0, 0, some ⟨w.heap.size, 0, none⟩, [], by omega, rfl, rfl, OwnS.nil (Own.litK (Nat.le_refl _)), rfl, (fun t ht => by cases ht), below_size.alloc (Nat.le_refl _) _⟩
  case round =>
    obtain ⟨i, cc, O, js, hin, rfl, rfl, hO, hj, hj1, hb⟩ := hrel
    have HB := Lib.hid hb
    have hzr := hb.size
    by_cases hlt : i < n
    · obtain ⟨ad, x, rfl, hab, hx, hc0, hc1, hc2, hc3, hrd⟩ := RdCS.at_ (H.out.below hb) hlt
      have HDX := Lib.hid (show D[i]? = some (datC x) by rw [← HD.out, List.getElem?_map, hx]; rfl)
      have hxi := HI.out x (List.mem_of_getElem? hx)
      have hxr : Rd2 wr x.A x.n x.xs := hrd.head
      obtain ⟨kd, vr, ln, xA, xn, xc, xs⟩ := x
      simp only at hc0 hc1 hc2 hc3 hxi hxr
      obtain ⟨w4, hw4⟩ : ∃ w4, wr.alloc (.cells #[.int .i64 kd, .int .i64 vr, .int .i64 ln, .slice xA xn xc] 46) = w4 := ⟨_, rfl⟩
      have E4 := Lib.hid (show Below wr.heap.size wr w4 by rw [← hw4]; exact below_size.alloc (Nat.le_refl _) _)
      have K4 := Lib.hid (show Blk w4 wr.heap.size 46 #[.int .i64 kd, .int .i64 vr, .int .i64 ln, .slice xA xn xc] by rw [← hw4]; exact Blk.new _ _ _)
      have hz4 := E4.out.size
      have c3 : (w4.alloc (.cells #[] 49)).cell? ⟨(ad.add (i * 4)).block, (ad.add (i * 4)).off + 3, none⟩ = some (.slice xA xn xc) := keepa _ (keepc E4.out hc3)
      have XR := Lib.hid (show Rd2 (w4.alloc (.cells #[] 49)) xA xn xs from (hxr.below E4.out).alloc _)
      have hl4 := K4.out.lt
      have XL := Lib.hid hxr.len
      clear hb hrd hx hxr
      go_wp2_with (first
        | (at_builtin; refine wp_appExpr (by rfl) _ _ (by rfl) w4.heap.size (some ⟨w4.heap.size, 0, none⟩) 0 0 [] (by rfl) (by exact Own.litK (Nat.le_refl _)) xA xn xc xs (by rfl) (by exact XR.out) (by omega) (by simp) ?_; intro A1 c1 w5 own5 hb5 hk5 hg5 hz5; (rw [Nat.zero_add, List.nil_append] at own5); have K5 := Lib.hid (K4.out.below ((below_size.alloc (Nat.le_refl _) (.cells #[] 49)).trans hb5) hl4); have f3 := K5.out.frozen 3; have y3 : w5.cell? ⟨wr.heap.size, 3, none⟩ = some (.slice xA xn xc) := K5.out.cell 3; have y0 : w5.cell? ⟨wr.heap.size, 0, none⟩ = some (.int .i64 kd) := K5.out.cell 0; have y1 : w5.cell? ⟨wr.heap.size, 1, none⟩ = some (.int .i64 vr) := K5.out.cell 1; have y2 : w5.cell? ⟨wr.heap.size, 2, none⟩ = some (.int .i64 ln) := K5.out.cell 2; have E6 := Lib.hid ((below_chain E4.out hz4 ((below_size.alloc (Nat.le_refl _) (.cells #[] 49)).trans hb5)).setCell (p := ⟨wr.heap.size, 3, none⟩) (Nat.le_refl _) (.slice A1 xn c1)); have W6 := Lib.hid (show Wr (w5.setCell ⟨wr.heap.size, 3, none⟩ (.slice A1 xn c1)) wr.heap.size (w5.setCell ⟨wr.heap.size, 3, none⟩ (.slice A1 xn c1)).heap.size A1 (xn * 2) (xs.flatMap enc2) from ((own5.wrK.set_far (p := ⟨wr.heap.size, 3, none⟩) (.inl hl4) _).wider (Nat.le_of_lt hl4) (by rw [World.size_setCell]; exact Nat.le_refl _))); clear own5 hb5 hk5 hg5 hz5)
        | (at_builtin; refine wp_appCmd (by rfl) _ _ (by rfl) w.heap.size O i cc js (by rfl) wr hO.out hzr (by exact E6.out.alloc E6.out.size _) _ ⟨kd, vr, ln, A1, xn, c1, xs⟩ (by rfl) (by have hbn := Blk.new (w5.setCell ⟨wr.heap.size, 3, none⟩ (.slice A1 xn c1)) 46 #[.int .i64 kd, .int .i64 vr, .int .i64 ln, .slice A1 xn c1]; rwa [World.size_setCell] at hbn) (by exact (W6.out.alloc _).wider (Nat.le_refl _) (by simp)) (by omega) ?_; intro A7 c7 w7 own7 hb7 hz7 hg7 hk7))
      have O7 := Lib.hid own7; have B7 := Lib.hid hb7
      clear own7 hb7 hz7 hg7 hk7
      go_wp2_with fail
      go_roundw
      case rel =>
        refine ⟨i + 1, c7, A7, js ++ [(⟨kd, vr, ln, A1, xn, c1, xs⟩ : Ct)], by omega, by go_num, rfl, O7.out, ?_, ?_, ?_⟩
        · show (js ++ [_]).map datC = D.take (i + 1)
          rw [take_at HDX.out, List.map_append, List.map_singleton, hj.out]; rfl
        · intro t ht
          rcases List.mem_append.1 ht with ht | ht
          · exact hj1.out t ht
          · rw [List.mem_singleton] at ht; subst ht; exact hxi
        · exact (below_chain HB.out hzr (E6.out.alloc E6.out.size _)).trans B7.out
      case measure => simp [intOf]; omega
    · obtain rfl : i = n := by omega
      have HJ := Lib.hid (show js.map datC = D by rw [hj.out, List.take_of_length_le (by rw [HDL.out]; exact Nat.le_refl _)])
      clear hb hj
      go_wp2_with fail
      go_ret
      exact ⟨O, cc, js, rfl, ⟨hO.out, HJ.out⟩, hj1.out, HB.out⟩
set_option maxRecDepth 100000 in
theorem cloneExpr_c (ad : Addr) (n cp : Nat) (c : List (Int × Int)) (w : World) (h : Rd2 w (some ad) n c) (hn : n ≤ 1000000) :
    Calls Try.prog 37 #[.slice (some ad) n cp] w fun e w' => ∃ A' cap, e = .returned (.slice A' n cap) ∧ Wr w' w.heap.size w'.heap.size A' (n * 2) (c.flatMap enc2) ∧ n ≤ cap ∧ Below w.heap.size w w' := by
  have HC := Lib.hid (show Rd2 (w.alloc (.cells #[] 49)) (some ad) n c from h.alloc _)
  have he : ∀ w, (binOp BinOp.eql 44 (Value.slice (some ad) n cp) (Value.slice none 0 0)).run Try.prog w = .ok (.bool false) w := fun w => by kernel_rfl
  clear h
  go_enter Try.func37, Try.ntmps37
  go_wp2_with (at_builtin; refine wp_appExpr (by rfl) _ _ (by rfl) w.heap.size (some ⟨w.heap.size, 0, none⟩) 0 0 [] (by rfl) (by exact Own.litK (Nat.le_refl _)) (some ad) n cp c (by rfl) (by exact HC.out) (by omega) (by simp) ?_; intro A1 c1 w1 own1 hb1 hk1 hg1 hz1)
  rw [Nat.zero_add, List.nil_append] at own1
  have O1 := Lib.hid own1; have B1 := Lib.hid ((below_size.alloc (Nat.le_refl _) (.cells #[] 49)).trans hb1)
  clear own1 hb1 hk1 hg1 hz1
  go_wp2_with fail
  go_ret
  exact ⟨A1, c1, by simp, O1.out.wrK, O1.out.cap, B1.out⟩
end Go.Proofs.Ytecpbgmcednpoaa
