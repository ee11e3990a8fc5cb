/-
  Contracts of chapter 16: all rewriting rules of a machine, of the reference.
-/
import Derived.Test.YtcbcjhfeidkeaaaC16c
import Derived.Deep.DeepCutAuto
import Derived.Test.YtcbcjhfeidkeaaaC05r
import Derived.Test.YtcbcjhfeidkeaaaAppA
namespace Go.Proofs.Ytcbcjhfeidkeaaa
open Go.RowKit

theorem l16Border_c (g : Nat) (sy st e : Int) (A : Option Addr) (n cp : Nat) (rs : List Rule3) (w : World) (h : MachP w g sy st A n cp rs) (hs : 2 ≤ sy ∧ sy ≤ 6) (ht : 1 ≤ st ∧ st ≤ 1000) (he : e = sy + st) :
    Calls Try.prog 51 #[.pointer (some ⟨g, 0, none⟩)] w fun e' w' => e' = .returned (.int .i64 e) ∧ Qt w w' := by
  have h0 := h.c0; have h1 := h.c1
  have v1 : IntKind.i64.wrap (sy + st) = e := by rw [IntWalk.i64_in _ (by omega)]; exact he.symm
  clear h he
  go_enter Try.func51, Try.ntmps51
  go_wp2_with fail
  go_quiet (fail)
  go_wp2_with fail
  go_ret
  exact ⟨rfl, (by first | exact Qt.refl _ | exact ⟨_, rfl⟩ | exact Qt.drewN ⟨_, rfl⟩ _)⟩
theorem l16Fits_c (g : Nat) (sy st e : Int) (A : Option Addr) (n cp : Nat) (rs : List Rule3) (w : World) (h : MachP w g sy st A n cp rs) (hs : 2 ≤ sy ∧ sy ≤ 6) (ht : 1 ≤ st ∧ st ≤ 1000) (he : e = sy + st) :
    Calls Try.prog 53 #[.pointer (some ⟨g, 0, none⟩)] w fun e' w' => e' = .returned (.bool (decide (e ≤ 9))) ∧ Qt w w' := by
  have HE := Lib.hid he
  clear he
  go_enter Try.func53, Try.ntmps53
  go_wp2_with (go_at_call 51; refine (l16Border_c g sy st e A n cp rs w h hs ht HE.out).mono ?_; rintro e' w2 ⟨rfl, hq⟩)
  go_ret
  exact ⟨rfl, hq⟩
theorem blk_new2 (w : World) (t : TypeId) (cs : Array Value) (g : Nat) (h : w.heap.size = g) : Blk (w.alloc (.cells cs t)) g t cs := by rw [← h]; exact Blk.new w t cs
theorem wp_appRwLit {ops : Array Oper} {rest : List Oper} {o : Oper} {a : Act} {w : World} {Q : Exit → Act → World → Prop} (hgd : o.guard = none) (s x : Operand)
    (ho : o.op = .call { callee := .builtin .append, args := #[s, x], argTypes := #[55, 55] })
    (B : Nat) (P : Option Addr) (k pc : Nat) (ts : List RwT) (hs : a.eval s = .slice P k pc) (w0 : World) (h0 : RwL w0 B B P k pc ts) (hB0 : B ≤ w0.heap.size) (fx tx : List Int) (cs1 cs2 : Array Value) (e1 : cs1.toList = fx.map i64) (e2 : cs2.toList = tx.map i64)
    (hw : w = ((w0.alloc (.cells cs1 2)).alloc (.cells cs2 2)).alloc (.cells #[.slice (some ⟨w0.heap.size, 0, none⟩) fx.length fx.length, .slice (some ⟨w0.heap.size + 1, 0, none⟩) tx.length tx.length] 85))
    (hx : a.eval x = .slice (some ⟨w0.heap.size + 1 + 1, 0, none⟩) 1 1) (hlen : k ≤ 1000000000)
    (h : ∀ A' cap w', RwL w' B B A' (k + 1) cap (ts ++ [rwT w0.heap.size fx tx]) → Below B w0 w' → w0.heap.size ≤ w'.heap.size →
      wpList Try.prog ops Q rest (a.put o.dst (.slice A' (k + 1) cap)) w') : wpList Try.prog ops Q (o :: rest) a w := by
  subst hw
  have E1 : Below w0.heap.size w0 (((w0.alloc (.cells cs1 2)).alloc (.cells cs2 2)).alloc (.cells #[.slice (some ⟨w0.heap.size, 0, none⟩) fx.length fx.length, .slice (some ⟨w0.heap.size + 1, 0, none⟩) tx.length tx.length] 85)) := ((below_size.alloc (Nat.le_refl _) _).alloc (by simp) _).alloc (by simp; omega) _
  have hPlt : ∀ p, P = some p → p.block < w0.heap.size := fun p hp => (h0.own.block hp).2.1
  refine wp_appRw hgd s x ho B B P k pc ts hs (h0.keep E1) (by simp; omega) (w0.heap.size + 1 + 1) (rwT w0.heap.size fx tx) hx (blk_new2 _ _ _ _ (by simp)) ?_ ?_ ?_ ?_ ?_ ?_ hlen ?_
  · exact (((Blk.new w0 2 cs1).alloc _).alloc _).rd (by rw [e1]; exact List.take_of_length_le (by simp [rwT])) (by show fx.length ≤ cs1.size; rw [← Array.length_toList, e1]; simp)
  · exact ((blk_new2 _ 2 cs2 (w0.heap.size + 1) (by simp)).alloc _).rd (by rw [e2]; exact List.take_of_length_le (by simp [rwT])) (by show tx.length ≤ cs2.size; rw [← Array.length_toList, e2]; simp)
  · intro a p ha hp _; injection ha with ha; subst ha; have := hPlt p hp; show w0.heap.size ≠ p.block; omega
  · intro a p ha hp _; injection ha with ha; subst ha; have := hPlt p hp; show w0.heap.size + 1 ≠ p.block; omega
  · intro a ha; injection ha with ha; subst ha; exact hB0
  · intro a ha; injection ha with ha; subst ha; show B ≤ w0.heap.size + 1; omega
  · intro A' cap w' hL hb _ hz
    exact h A' cap w' hL ((E1.mono hB0).trans hb) (Nat.le_trans (by simp; omega) hz)
set_option maxHeartbeats 8000000 in
set_option maxRecDepth 100000 in
theorem l16Rules_c (g s : Nat) (t e : Int) (RA : Option Addr) (rn rc : Nat) (rs : List Rule3) (X : List Rw) (w : World) (h : MachP w g s t RA rn rc rs) (hs : 2 ≤ s ∧ s ≤ 6) (he : e = s + t) (ht : 1 ≤ t ∧ t ≤ 1000) (hn : rn ≤ 10000) (hr : ∀ r ∈ rs, r ≠ noneR → 0 ≤ r.2.2 ∧ r.2.2 ≤ 100000) (hX : rwAll s e 0 rs = X) :
    Calls Try.prog 29 #[.pointer (some ⟨g, 0, none⟩)] w fun e' w' =>
      ∃ P m pc ts, e' = .returned (.tuple #[.slice P m pc, .bool (decide (0 < X.length) && decide (X.length ≤ 60) && decide (e ≤ 9))]) ∧ RwL w' w.heap.size w.heap.size P m pc ts ∧ ts.map datR = X ∧ Below w.heap.size w w' := by
  have HL := Lib.hid h.rd.len
  have H := Lib.hid h; have HX := Lib.hid hX; have HR := Lib.hid hr; have HEE := Lib.hid he
  have he2 : 0 ≤ e ∧ e ≤ 2000 := by omega
  clear h hX hr he
  obtain ⟨wi, hwi⟩ : ∃ wi, w.alloc (.cells #[] 85) = wi := ⟨_, rfl⟩
  have EI := Lib.hid (show Below w.heap.size w wi by rw [← hwi]; exact below_size.alloc (Nat.le_refl _) _)
  have HI := Lib.hid (show MachP wi g s t RA rn rc rs from H.out.below EI.out)
  have O2 := Lib.hid (show Own wi w.heap.size 85 2 (some ⟨w.heap.size, 0, none⟩) 0 0 [] by rw [← hwi]; exact Own.litK (Nat.le_refl _))
  go_enter Try.func29, Try.ntmps29
  go_wp2_with fail
  refine (l16Border_c g s t e RA rn rc rs wi HI.out (by omega) ht HEE.out).mono ?_
  rintro e' w2 ⟨rfl, hq2⟩
  have E2 := Lib.hid (show Below w.heap.size w w2 by obtain ⟨j, rfl⟩ := hq2; exact below_drewN EI.out j)
  have L2 := Lib.hid (show RwL w2 w.heap.size w.heap.size (some ⟨w.heap.size, 0, none⟩) 0 0 [] by obtain ⟨j, rfl⟩ := hq2; exact RwL.nil O2.out)
  clear hq2 O2 HI EI hwi
  go_wp2_with fail
  go_loopw [4, 6] (fun lv iv wr => ∃ (k m : Nat) (P : Option Addr) (pc : Nat) (ts : List RwT), k ≤ rn ∧ iv = .int .i64 k ∧ lv = .slice P m pc ∧ Hid (RwL wr w.heap.size w.heap.size P m pc ts) ∧ Hid (ts.map datR ++ rwAll s e k (rs.drop k) = X) ∧ m ≤ 14 * k ∧ Hid (Below w.heap.size w wr)) (fun _ iv _ => rn - (intOf iv).toNat)
  case atStart => exact ⟨0, 0, _, 0, [], by omega, rfl, rfl, L2.out, HX.out, by omega, E2.out⟩
  case round =>
    clear L2
    obtain ⟨k, m, P, pc, ts, hk, rfl, rfl, hL, hT, hm, hb⟩ := hrel
    have hP := H.out.below hb.out
    have h0 := hP.c0; have h1 := hP.c1; have h2 := hP.c2
    have hzr := hb.out.size
    by_cases hlt : k < rn
    · obtain ⟨ad, r, rfl, hab, hx, hc0, hc1, hc2⟩ := hP.rd.at_ hlt
      have HT := Lib.hid (show ts.map datR ++ ((if r = noneR then [] else rwOf s e ((s : Int) + (k / s : Nat)) ((k % s : Nat) : Int) r) ++ rwAll s e (k + 1) (rs.drop (k + 1))) = X by rw [← hT.out, drop_at hx, rwAll])
      have hrb := HR.out r (List.mem_of_getElem? hx)
      obtain ⟨b, mv, nx⟩ := r
      simp only at hc0 hc1 hc2 hrb
      obtain ⟨w5, hw5⟩ : ∃ w5, wr.alloc (.cells #[.int .i64 b, .int .i64 mv, .int .i64 nx] 80) = w5 := ⟨_, rfl⟩
      have B5 := Lib.hid (show Below w.heap.size w w5 by rw [← hw5]; exact hb.out.alloc hzr _)
      have K5 := Lib.hid (show Blk w5 wr.heap.size 80 #[.int .i64 b, .int .i64 mv, .int .i64 nx] by rw [← hw5]; exact Blk.new _ _ _)
      have L5 := Lib.hid (show RwL w5 _ _ _ _ _ _ by rw [← hw5]; exact hL.out.keep (below_size.alloc (Nat.le_refl _) _))
      have x0 := Ext.cell (show w5.cell? ⟨wr.heap.size, 0, none⟩ = some (.int .i64 b) from K5.out.cell 0)
      have x1 := Ext.cell (show w5.cell? ⟨wr.heap.size, 1, none⟩ = some (.int .i64 mv) from K5.out.cell 1)
      have x2 := Ext.cell (show w5.cell? ⟨wr.heap.size, 2, none⟩ = some (.int .i64 nx) from K5.out.cell 2)
      have hz5 := B5.out.size
      clear hx hT hL hb hP
      obtain ⟨d, hd⟩ : ∃ d, decide ((b, mv, nx) = noneR) = d := ⟨_, rfl⟩
      have HD := Lib.hid hd
      clear hd
      go_wp2_with fail
      go_cut [35] (fun v wx => v = .bool d ∧ Below w5.heap.size w5 wx)
      case first =>
        rcases rule_cases b mv nx with ⟨hnn, rfl, rfl, rfl⟩ | ⟨hnn, hne⟩
        · have hd : d = true := by rw [← HD.out]; exact decide_eq_true hnn
          subst hd
          refine Mix.wp_region_mix [3, 1, 0] (fun w' => ∃ x : Ext w5, w' = x.w) (by kernel_rfl) (by kernel_rfl) (InExt.drew _) ?_
          repeat (first | (refine Mix.wpMix_read (by rfl) ?_; go_big_quiet_step (fail); refine wpQuiet_nil ?_) | (refine Mix.wpMix_pure (by rfl) ?_; go_big_quiet_step (fail); refine wpQuiet_nil ?_))
          refine Mix.wpMix_chg (by rfl) (fun K hK => ?_)
          go_wp2_with fail
          refine (l05None_c _).mono ?_
          rintro e' w6 ⟨rfl, hb6⟩
          have E6 := Lib.hid (below_of_drew hb6)
          clear hb6
          go_wp2_with fail
          refine hK _ _ ⟨⟨_, E6.out⟩, rfl⟩ ?_
          clear hK K
          repeat (first | (refine Mix.wpMix_read (by rfl) ?_; go_big_quiet_step (fail); refine wpQuiet_nil ?_) | (refine Mix.wpMix_pure (by rfl) ?_; go_big_quiet_step (fail); refine wpQuiet_nil ?_))
          (refine Mix.wpMix_nil ?_; try simp only [Exit.then])
          go_wp2_with fail
          go_meet
          exact ⟨rfl, E6.out⟩
        · have hd : d = false := by rw [← HD.out]; exact decide_eq_false hnn
          subst hd
          rcases hne with hne | ⟨rfl, hne⟩ | ⟨rfl, rfl, hne⟩
          all_goals
            refine Mix.wp_region_mix [3, 1, 0] (fun w' => ∃ x : Ext w5, w' = x.w) (by kernel_rfl) (by kernel_rfl) (InExt.drew _) ?_
            repeat (first | (refine Mix.wpMix_read (by rfl) ?_; go_big_quiet_step (fail); refine wpQuiet_nil ?_) | (refine Mix.wpMix_pure (by rfl) ?_; go_big_quiet_step (fail); refine wpQuiet_nil ?_))
            refine Mix.wpMix_chg (by rfl) (fun K hK => ?_)
            go_wp2_with fail
            refine (l05None_c _).mono ?_
            rintro e' w6 ⟨rfl, hb6⟩
            have E6 := Lib.hid (below_of_drew hb6)
            clear hb6
            go_wp2_with fail
            refine hK _ _ ⟨⟨_, E6.out⟩, rfl⟩ ?_
            clear hK K
            repeat (first | (refine Mix.wpMix_read (by rfl) ?_; go_big_quiet_step (fail); refine wpQuiet_nil ?_) | (refine Mix.wpMix_pure (by rfl) ?_; go_big_quiet_step (fail); refine wpQuiet_nil ?_))
            (refine Mix.wpMix_nil ?_; try simp only [Exit.then])
            go_wp2_with fail
            go_meet
            exact ⟨rfl, E6.out⟩
      case rest =>
        obtain ⟨rfl, hb6⟩ := hcut
        have B6 := Lib.hid (below_chain B5.out hz5 hb6)
        have L6 := Lib.hid (L5.out.keep hb6)
        have K6 := Lib.hid (K5.out.keep hb6)
        have hP6 := H.out.below B6.out
        have hz6 := B6.out.size
        clear hb6 x0 x1 x2 h0 h1 h2 hc0 hc1 hc2
        cases d
        · have hno : ¬ (b, mv, nx) = noneR := of_decide_eq_false HD.out
          have HG := Lib.hid (show ts.map datR ++ (rwOf s e ((s : Int) + (k / s : Nat)) ((k % s : Nat) : Int) (b, mv, nx) ++ rwAll s e (k + 1) (rs.drop (k + 1))) = X by rw [← HT.out, if_neg hno])
          have hrb' := hrb hno
          have h0 := hP6.c0; have h2 := hP6.c2
          have a2 : wc.cell? ⟨wr.heap.size, 2, none⟩ = some (.int .i64 nx) := K6.out.cell 2
          have hkq : k / s ≤ k := Nat.div_le_self _ _
          have hkr : k % s < s := Nat.mod_lt _ (by omega)
          obtain ⟨q, hq⟩ : ∃ q, k / s = q := ⟨_, rfl⟩
          obtain ⟨z, hz'⟩ : ∃ z, k % s = z := ⟨_, rfl⟩
          have d1 : (k : Int).tdiv (s : Int) = (q : Int) := by rw [Int.tdiv_eq_ediv_of_nonneg (by omega), ← hq]; rfl
          have d2 : (k : Int).tmod (s : Int) = (z : Int) := by rw [Int.tmod_eq_emod_of_nonneg (by omega), ← hz']; rfl
          have d3 : IntKind.i64.wrap (q : Int) = (q : Int) := IntWalk.i64_in _ (by omega)
          have d4 : IntKind.i64.wrap (z : Int) = (z : Int) := IntWalk.i64_in _ (by omega)
          have hsn : ((s : Int) == 0) = false := by simp; omega
          rw [hq, hz'] at HG
          rw [hq] at hkq; rw [hz'] at hkr
          have v1 : IntKind.i64.wrap ((s : Int) + (q : Int)) = (s : Int) + (q : Int) := IntWalk.i64_in _ (by omega)
          have v2 : IntKind.i64.wrap ((s : Int) + nx) = (s : Int) + nx := IntWalk.i64_in _ (by omega)
          clear hq hz' hno hrb HT hP6
          go_wp2_with fail
          go_quiet (fail)
          obtain ⟨w7, hw7⟩ : ∃ w7, wc.drewN nq = w7 := ⟨_, rfl⟩
          rw [hw7]
          have B7 := Lib.hid (show Below w.heap.size w w7 by rw [← hw7]; exact below_drewN B6.out _)
          have L7 := Lib.hid (show RwL w7 w.heap.size w.heap.size P m pc ts by rw [← hw7]; exact L6.out.keep (below_drewN below_size _))
          have K7 := Lib.hid (show Blk w7 wr.heap.size 80 #[.int .i64 b, .int .i64 mv, .int .i64 nx] by rw [← hw7]; exact K6.out)
          have h0 := (H.out.below B7.out).c0
          have a2 : w7.cell? ⟨wr.heap.size, 2, none⟩ = some (.int .i64 nx) := K7.out.cell 2
          clear hw7
          go_wp2_with fail
          go_quiet (fail)
          obtain ⟨w8, hw8⟩ : ∃ w8, w7.drewN nq = w8 := ⟨_, rfl⟩
          rw [hw8]
          have B8 := Lib.hid (show Below w.heap.size w w8 by rw [← hw8]; exact below_drewN B7.out _)
          have L8 := Lib.hid (show RwL w8 w.heap.size w.heap.size P m pc ts by rw [← hw8]; exact L7.out.keep (below_drewN below_size _))
          have K8 := Lib.hid (show Blk w8 wr.heap.size 80 #[.int .i64 b, .int .i64 mv, .int .i64 nx] by rw [← hw8]; exact K7.out)
          have h0 := (H.out.below B8.out).c0
          have a0 : w8.cell? ⟨wr.heap.size, 0, none⟩ = some (.int .i64 b) := K8.out.cell 0
          have a1 : w8.cell? ⟨wr.heap.size, 1, none⟩ = some (.int .i64 mv) := K8.out.cell 1
          have hz8 := B8.out.size
          clear hw8
          by_cases hmv : mv = 1
          · have gm : (mv == 1) = true := by simpa using hmv
            have HMV := Lib.hid hmv
            clear hmv
            by_cases hz0 : z = 0
            · have gz : ((z : Int) == 0) = true := by simp; omega
              have HR2 := Lib.hid (show rwOf s e ((s : Int) + (q : Int)) (z : Int) (b, mv, nx) = [([(s : Int) + (q : Int), (z : Int)], [b, (s : Int) + nx]), ([(s : Int) + (q : Int), e], [b, (s : Int) + nx, e])] by rw [rwOf, if_pos HMV.out, if_pos (by omega)])
              have HZ0 := Lib.hid hz0
              clear hz0
              go_wp2_with (first
                | (at_builtin; refine wp_appRwLit (by rfl) _ _ (by rfl) w.heap.size P m pc ts (by rfl) w8 L8.out (by omega) [(s : Int) + (q : Int), (z : Int)] [b, (s : Int) + nx] #[.int .i64 ((s : Int) + (q : Int)), .int .i64 ((z : Int))] #[.int .i64 (b), .int .i64 ((s : Int) + nx)] (by rfl) (by rfl) (by rfl) (by rfl) (by omega) ?_; intro A9 c9 w9 hL9 hb9 hz9; have L9 := Lib.hid hL9; have B9 := Lib.hid (B8.out.trans hb9); clear hL9 hb9)
                | (at_builtin; refine wp_appRwLit (by rfl) _ _ (by rfl) w.heap.size A9 (m + 1) c9 (ts ++ [rwT w8.heap.size [(s : Int) + (q : Int), (z : Int)] [b, (s : Int) + nx]]) (by rfl) w9 L9.out (by omega) [(s : Int) + (q : Int), e] [b, (s : Int) + nx, e] #[.int .i64 ((s : Int) + (q : Int)), .int .i64 (e)] #[.int .i64 (b), .int .i64 ((s : Int) + nx), .int .i64 (e)] (by rfl) (by rfl) (by rfl) (by rfl) (by omega) ?_; intro A10 c10 w10 hL10 hb10 hz10; have L10 := Lib.hid hL10; have B10 := Lib.hid (B9.out.trans hb10); clear hL10 hb10))
              have HT10 := Lib.hid (show ((ts ++ [rwT w8.heap.size [(s : Int) + (q : Int), (z : Int)] [b, (s : Int) + nx]]) ++ [rwT w9.heap.size [(s : Int) + (q : Int), e] [b, (s : Int) + nx, e]]).map datR ++ rwAll s e (k + 1) (rs.drop (k + 1)) = X by
                rw [← HG.out, HR2.out, List.map_append, List.map_append, List.append_assoc, List.append_assoc]; rfl)
              go_roundw
              case rel => exact ⟨k + 1, m + 1 + 1, A10, c10, _, by omega, by go_num, rfl, L10.out, HT10.out, by omega, B10.out⟩
              case measure => simp [intOf]; omega
            · have gz : ((z : Int) == 0) = false := by simp; omega
              have HR2 := Lib.hid (show rwOf s e ((s : Int) + (q : Int)) (z : Int) (b, mv, nx) = [([(s : Int) + (q : Int), (z : Int)], [b, (s : Int) + nx])] by rw [rwOf, if_pos HMV.out, if_neg (by omega)])
              go_wp2_with (at_builtin; refine wp_appRwLit (by rfl) _ _ (by rfl) w.heap.size P m pc ts (by rfl) w8 L8.out (by omega) [(s : Int) + (q : Int), (z : Int)] [b, (s : Int) + nx] #[.int .i64 ((s : Int) + (q : Int)), .int .i64 ((z : Int))] #[.int .i64 (b), .int .i64 ((s : Int) + nx)] (by rfl) (by rfl) (by rfl) (by rfl) (by omega) ?_; intro A9 c9 w9 hL9 hb9 hz9; have L9 := Lib.hid hL9; have B9 := Lib.hid (B8.out.trans hb9); clear hL9 hb9)
              have HT9 := Lib.hid (show (ts ++ [rwT w8.heap.size [(s : Int) + (q : Int), (z : Int)] [b, (s : Int) + nx]]).map datR ++ rwAll s e (k + 1) (rs.drop (k + 1)) = X by
                rw [← HG.out, HR2.out, List.map_append, List.append_assoc]; rfl)
              go_roundw
              case rel => exact ⟨k + 1, m + 1, A9, c9, _, by omega, by go_num, rfl, L9.out, HT9.out, by omega, B9.out⟩
              case measure => simp [intOf]; omega
          · have gm : (mv == 1) = false := by simpa using hmv
            go_wp2_with fail
            obtain ⟨wo, rfl⟩ : ∃ wo : World, wo = wr := ⟨_, rfl⟩
            go_loopw [4, 12] (fun lv cv wx => ∃ (c m1 : Nat) (P1 : Option Addr) (pc1 : Nat) (t1 : List RwT), c ≤ s ∧ cv = .int .i64 c ∧ lv = .slice P1 m1 pc1 ∧ Hid (RwL wx w.heap.size w.heap.size P1 m1 pc1 t1) ∧ Hid (t1.map datR = ts.map datR ++ (List.range c).map (fun (c : Nat) => (([(c : Int), (s : Int) + (q : Int), (z : Int)], [(s : Int) + nx, c, b]) : Rw))) ∧ Hid (m1 = m + c) ∧ Hid (Below w.heap.size w wx)) (fun _ cv _ => s - (intOf cv).toNat)
            case atStart => exact ⟨0, m, P, pc, ts, by omega, rfl, rfl, L8.out, (by show _ = _; simp), rfl, B8.out⟩
            case round =>
              clear h0 a0 a1 a2
              obtain ⟨c, m1, P1, pc1, t1, hcs, rfl, rfl, Lr, hT1, hm1, Br⟩ := hrel
              have hm1b : m1 ≤ 1000000 := by have h7 := hm1.out; omega
              have h0 := (H.out.below Br.out).c0
              have hzr := Br.out.size
              by_cases hlt1 : c < s
              · go_wp2_with (at_builtin; refine wp_appRwLit (by rfl) _ _ (by rfl) w.heap.size P1 m1 pc1 t1 (by rfl) wr Lr.out (by omega) [(c : Int), (s : Int) + (q : Int), (z : Int)] [(s : Int) + nx, (c : Int), b] #[.int .i64 ((c : Int)), .int .i64 ((s : Int) + (q : Int)), .int .i64 ((z : Int))] #[.int .i64 ((s : Int) + nx), .int .i64 ((c : Int)), .int .i64 (b)] (by rfl) (by rfl) (by rfl) (by rfl) (by omega) ?_; intro A9 c9 w9 hL9 hb9 hz9; have L9 := Lib.hid hL9; have B9 := Lib.hid (Br.out.trans hb9); clear hL9 hb9)
                have HT9 := Lib.hid (show (t1 ++ [rwT wr.heap.size [(c : Int), (s : Int) + (q : Int), (z : Int)] [(s : Int) + nx, (c : Int), b]]).map datR = ts.map datR ++ (List.range (c + 1)).map (fun (c : Nat) => (([(c : Int), (s : Int) + (q : Int), (z : Int)], [(s : Int) + nx, c, b]) : Rw)) by
                  rw [List.map_append, hT1.out, List.range_succ, List.map_append, List.append_assoc]; rfl)
                go_roundw
                case rel => exact ⟨c + 1, m1 + 1, A9, c9, _, by omega, by go_num, rfl, L9.out, HT9.out, (by have h7 := hm1.out; unfold Hid; omega), B9.out⟩
                case measure => simp [intOf]; omega
              · obtain rfl : s = c := by omega
                by_cases hz0 : z = 0
                · have gz : ((z : Int) == 0) = true := by simp; omega
                  have HZ0 := Lib.hid hz0
                  clear hz0
                  go_wp2_with (at_builtin; refine wp_appRwLit (by rfl) _ _ (by rfl) w.heap.size P1 m1 pc1 t1 (by rfl) wr Lr.out (by omega) [e, (s : Int) + (q : Int), (z : Int)] [e, (s : Int) + nx, 0, b] #[.int .i64 (e), .int .i64 ((s : Int) + (q : Int)), .int .i64 ((z : Int))] #[.int .i64 (e), .int .i64 ((s : Int) + nx), .int .i64 (0), .int .i64 (b)] (by rfl) (by rfl) (by rfl) (by rfl) (by omega) ?_; intro A9 c9 w9 hL9 hb9 hz9; have L9 := Lib.hid hL9; have B9 := Lib.hid (Br.out.trans hb9); clear hL9 hb9)
                  have HT9 := Lib.hid (show (t1 ++ [rwT wr.heap.size [e, (s : Int) + (q : Int), (z : Int)] [e, (s : Int) + nx, 0, b]]).map datR = ts.map datR ++ ((List.range s).map (fun (c : Nat) => (([(c : Int), (s : Int) + (q : Int), (z : Int)], [(s : Int) + nx, c, b]) : Rw)) ++ [([e, (s : Int) + (q : Int), (z : Int)], [e, (s : Int) + nx, 0, b])]) by
                    rw [List.map_append, hT1.out, List.append_assoc]; rfl)
                  obtain ⟨t2, ht2⟩ : ∃ t2, t1 ++ [rwT wr.heap.size [e, (s : Int) + (q : Int), (z : Int)] [e, (s : Int) + nx, 0, b]] = t2 := ⟨_, rfl⟩
                  rw [ht2] at L9 HT9
                  clear ht2 hT1 Lr Br
                  obtain ⟨wp, rfl⟩ : ∃ wp : World, wp = wr := ⟨_, rfl⟩
                  go_loopw [4, 13] (fun lv cv wx => ∃ (d m2 : Nat) (P2 : Option Addr) (pc2 : Nat) (t3 : List RwT), d ≤ s ∧ cv = .int .i64 d ∧ lv = .slice P2 m2 pc2 ∧ Hid (RwL wx w.heap.size w.heap.size P2 m2 pc2 t3) ∧ Hid (t3.map datR = t2.map datR ++ (List.range d).map (fun (c : Nat) => (([(c : Int), (s : Int) + (q : Int), e], [(s : Int) + nx, c, b, e]) : Rw))) ∧ Hid (m2 = m1 + 1 + d) ∧ Hid (Below w.heap.size w wx)) (fun _ cv _ => s - (intOf cv).toNat)
                  case atStart => exact ⟨0, m1 + 1, A9, c9, t2, by omega, rfl, rfl, L9.out, (by show _ = _; simp), rfl, B9.out⟩
                  case round =>
                    clear h0
                    obtain ⟨d, m2, P2, pc2, t3, hds, rfl, rfl, Lr, hT3, hm2, Br⟩ := hrel
                    have hm2b : m2 ≤ 1000000 := by have h7 := hm1.out; have h8 := hm2.out; omega
                    have h0 := (H.out.below Br.out).c0
                    have hzr := Br.out.size
                    by_cases hlt2 : d < s
                    · go_wp2_with (at_builtin; refine wp_appRwLit (by rfl) _ _ (by rfl) w.heap.size P2 m2 pc2 t3 (by rfl) wr Lr.out (by omega) [(d : Int), (s : Int) + (q : Int), e] [(s : Int) + nx, (d : Int), b, e] #[.int .i64 ((d : Int)), .int .i64 ((s : Int) + (q : Int)), .int .i64 (e)] #[.int .i64 ((s : Int) + nx), .int .i64 ((d : Int)), .int .i64 (b), .int .i64 (e)] (by rfl) (by rfl) (by rfl) (by rfl) (by omega) ?_; intro A10 c10 w10 hL10 hb10 hz10; have L10 := Lib.hid hL10; have B10 := Lib.hid (Br.out.trans hb10); clear hL10 hb10)
                      have HT10 := Lib.hid (show (t3 ++ [rwT wr.heap.size [(d : Int), (s : Int) + (q : Int), e] [(s : Int) + nx, (d : Int), b, e]]).map datR = t2.map datR ++ (List.range (d + 1)).map (fun (c : Nat) => (([(c : Int), (s : Int) + (q : Int), e], [(s : Int) + nx, c, b, e]) : Rw)) by
                        rw [List.map_append, hT3.out, List.range_succ, List.map_append, List.append_assoc]; rfl)
                      go_roundw
                      case rel => exact ⟨d + 1, m2 + 1, A10, c10, _, by omega, by go_num, rfl, L10.out, HT10.out, (by have h8 := hm2.out; unfold Hid; omega), B10.out⟩
                      case measure => simp [intOf]; omega
                    · obtain rfl : s = d := by omega
                      have HR2 := Lib.hid (show rwOf s e ((s : Int) + (q : Int)) (z : Int) (b, mv, nx) = (List.range s).map (fun (c : Nat) => (([(c : Int), (s : Int) + (q : Int), (z : Int)], [(s : Int) + nx, c, b]) : Rw)) ++ (([e, (s : Int) + (q : Int), (z : Int)], [e, (s : Int) + nx, 0, b]) :: ((List.range s).map (fun (c : Nat) => (([(c : Int), (s : Int) + (q : Int), e], [(s : Int) + nx, c, b, e]) : Rw)) ++ [([e, (s : Int) + (q : Int), e], [e, (s : Int) + nx, 0, b, e])])) by
                        have h7 := HZ0.out
                        rw [rwOf, if_neg hmv, if_pos (by omega)])
                      go_wp2_with (at_builtin; refine wp_appRwLit (by rfl) _ _ (by rfl) w.heap.size P2 m2 pc2 t3 (by rfl) wr Lr.out (by omega) [e, (s : Int) + (q : Int), e] [e, (s : Int) + nx, 0, b, e] #[.int .i64 (e), .int .i64 ((s : Int) + (q : Int)), .int .i64 (e)] #[.int .i64 (e), .int .i64 ((s : Int) + nx), .int .i64 (0), .int .i64 (b), .int .i64 (e)] (by rfl) (by rfl) (by rfl) (by rfl) (by omega) ?_; intro A10 c10 w10 hL10 hb10 hz10; have L10 := Lib.hid hL10; have B10 := Lib.hid (Br.out.trans hb10); clear hL10 hb10)
                      have HT10 := Lib.hid (show (t3 ++ [rwT wr.heap.size [e, (s : Int) + (q : Int), e] [e, (s : Int) + nx, 0, b, e]]).map datR ++ rwAll s e (k + 1) (rs.drop (k + 1)) = X by
                        rw [← HG.out, HR2.out, List.map_append, hT3.out, HT9.out]
                        simp only [List.append_assoc, List.cons_append, List.nil_append]; rfl)
                      go_roundw
                      case rel => exact ⟨k + 1, m2 + 1, A10, c10, _, by omega, by go_num, rfl, L10.out, HT10.out, (by have h7 := hm1.out; have h8 := hm2.out; omega), B10.out⟩
                      case measure => simp [intOf]; omega
                · have gz : ((z : Int) == 0) = false := by simp; omega
                  have HR2 := Lib.hid (show rwOf s e ((s : Int) + (q : Int)) (z : Int) (b, mv, nx) = (List.range s).map (fun (c : Nat) => (([(c : Int), (s : Int) + (q : Int), (z : Int)], [(s : Int) + nx, c, b]) : Rw)) ++ [([e, (s : Int) + (q : Int), (z : Int)], [e, (s : Int) + nx, 0, b])] by rw [rwOf, if_neg hmv, if_neg (by omega)])
                  go_wp2_with (at_builtin; refine wp_appRwLit (by rfl) _ _ (by rfl) w.heap.size P1 m1 pc1 t1 (by rfl) wr Lr.out (by omega) [e, (s : Int) + (q : Int), (z : Int)] [e, (s : Int) + nx, 0, b] #[.int .i64 (e), .int .i64 ((s : Int) + (q : Int)), .int .i64 ((z : Int))] #[.int .i64 (e), .int .i64 ((s : Int) + nx), .int .i64 (0), .int .i64 (b)] (by rfl) (by rfl) (by rfl) (by rfl) (by omega) ?_; intro A9 c9 w9 hL9 hb9 hz9; have L9 := Lib.hid hL9; have B9 := Lib.hid (Br.out.trans hb9); clear hL9 hb9)
                  have HT9 := Lib.hid (show (t1 ++ [rwT wr.heap.size [e, (s : Int) + (q : Int), (z : Int)] [e, (s : Int) + nx, 0, b]]).map datR ++ rwAll s e (k + 1) (rs.drop (k + 1)) = X by
                    rw [← HG.out, HR2.out, List.map_append, hT1.out]
                    simp only [List.append_assoc, List.cons_append, List.nil_append]; rfl)
                  go_roundw
                  case rel => exact ⟨k + 1, m1 + 1, A9, c9, _, by omega, by go_num, rfl, L9.out, HT9.out, (by have h7 := hm1.out; omega), B9.out⟩
                  case measure => simp [intOf]; omega
        · have hno : (b, mv, nx) = noneR := of_decide_eq_true HD.out
          have HG := Lib.hid (show ts.map datR ++ rwAll s e (k + 1) (rs.drop (k + 1)) = X by rw [← HT.out, if_pos hno]; simp)
          clear hno HT hrb hP6
          go_wp2_with fail
          go_roundw
          case rel => exact ⟨k + 1, m, P, pc, ts, by omega, by go_num, rfl, L6.out, HG.out, by omega, B6.out⟩
          case measure => simp [intOf]; omega
    · obtain rfl : k = rn := by omega
      have HG := Lib.hid (show ts.map datR = X by rw [← hT.out, List.drop_eq_nil_of_le (by rw [HL.out]; exact Nat.le_refl _)]; simp [rwAll])
      have hXl : X.length = m := by rw [← HG.out, List.length_map]; exact hL.out.len
      have hP0 := H.out.below hb.out
      have HP0 := Lib.hid hP0
      clear hT hP hP0
      by_cases m0 : 0 < m
      · have g0 : decide (0 < (m : Int)) = true := by rw [decide_eq_true_eq]; omega
        by_cases m60 : m ≤ 60
        · have g1 : decide ((m : Int) ≤ 60) = true := by rw [decide_eq_true_eq]; omega
          go_wp2_with (go_at_call 53; refine (l16Fits_c g s t e RA k rc rs wr HP0.out (by omega) ht HEE.out).mono ?_; rintro e' w9 ⟨rfl, hq9⟩)
          go_ret2
          refine ⟨P, m, pc, ts, by rw [hXl, decide_eq_true m0, decide_eq_true m60]; simp, ?_, HG.out, ?_⟩
          · obtain ⟨j, rfl⟩ := hq9; exact hL.out.keep (below_drewN below_size j)
          · obtain ⟨j, rfl⟩ := hq9; exact below_drewN hb.out j
        · have g1 : decide ((m : Int) ≤ 60) = false := by rw [decide_eq_false_iff_not]; omega
          go_wp2_with fail
          go_ret2
          exact ⟨P, m, pc, ts, by rw [hXl, decide_eq_false m60]; simp, hL.out, HG.out, hb.out⟩
      · have g0 : decide (0 < (m : Int)) = false := by rw [decide_eq_false_iff_not]; omega
        go_wp2_with fail
        go_ret2
        exact ⟨P, m, pc, ts, by rw [hXl, decide_eq_false m0]; simp, hL.out, HG.out, hb.out⟩

set_option maxHeartbeats 4000000 in
set_option maxRecDepth 100000 in
theorem l16Word_c (g s : Nat) (t e : Int) (RA : Option Addr) (rn rc : Nat) (rs : List Rule3) (g' : Nat) (q : Int) (XA : Option Addr) (xn xc : Nat) (xs : List Int) (YA : Option Addr) (yn yc : Nat) (ys : List Int) (W : List Int) (w : World) (h : MachP w g s t RA rn rc rs) (h' : ConfP w g' q XA xn xc xs YA yn yc ys) (hs : 2 ≤ s ∧ s ≤ 6) (he : e = s + t) (ht : 1 ≤ t ∧ t ≤ 1000) (hq : 0 ≤ q ∧ q ≤ 1000) (hx : xn ≤ 200) (hy : yn ≤ 200) (hW : wordW s e q xs ys = W) :
    Calls Try.prog 30 #[.pointer (some ⟨g, 0, none⟩), .pointer (some ⟨g', 0, none⟩)] w fun e' w' => ∃ A c, e' = .returned (.slice A W.length c) ∧ Wr w' w.heap.size w'.heap.size A W.length (W.map i64) ∧ W.length = xn + yn + 3 ∧ W.length ≤ c ∧ Below w.heap.size w w' := by
  have hxl := h'.rd.len; have hyl := h'.rd'.len
  have hWl : W.length = xn + yn + 3 := by rw [← hW, wordW]; simp [hxl, hyl]; omega
  have HW := Lib.hid (show [e] ++ (xs.reverse ++ ([(s : Int) + q] ++ (ys ++ [e]))) = W by rw [← hW]; rfl)
  have H := Lib.hid h; have H' := Lib.hid h'; have HEE := Lib.hid he
  have he2 : 0 ≤ e ∧ e ≤ 2000 := by omega
  clear h h' he hW hxl hyl
  go_enter Try.func30, Try.ntmps30
  go_wp2_with fail
  refine (l16Border_c g s t e RA rn rc rs w H.out (by omega) ht HEE.out).mono ?_
  rintro e' w1 ⟨rfl, hq1⟩
  have E1 := Lib.hid (show Below w.heap.size w w1 by obtain ⟨j, rfl⟩ := hq1; exact below_drewN below_size j)
  clear hq1
  have hz1 := E1.out.size
  obtain ⟨w2, hw2⟩ : ∃ w2, w1.alloc (.cells #[.int .i64 e] 2) = w2 := ⟨_, rfl⟩
  have E2 := Lib.hid (show Below w.heap.size w w2 by rw [← hw2]; exact E1.out.alloc hz1 _)
  have O2 := Lib.hid (show Own w2 w.heap.size 2 1 (some ⟨w1.heap.size, 0, none⟩) 1 1 ([e].map i64) by rw [← hw2]; exact Own.fullK hz1 rfl rfl (by omega))
  have hP2 := H'.out.below E2.out
  have hc1 := hP2.c1
  have R2 := Lib.hid hP2.rd
  have hz2 := E2.out.size
  clear hP2
  go_wp2_with (first
    | (go_at_call 54; refine (l03Reverse_c XA xn xc xs w2 R2.out (by omega)).mono ?_; rintro e' w3 ⟨A3, c3, rfl, hw3, hb3⟩; have R3 := Lib.hid (show RdI w3 A3 xn xs.reverse from hw3.rdI); have E3 := Lib.hid (below_chain E2.out hz2 hb3); have O3 := Lib.hid (O2.out.keep hb3); have hz3 := E3.out.size)
    | (at_builtin; refine wp_appA (by rfl) _ _ (by rfl) w.heap.size (some ⟨w1.heap.size, 0, none⟩) 1 1 ([e].map i64) (by rfl) (by exact O3.out) A3 xn c3 xs.reverse (by rfl) (by exact R3.out) (by omega) hz3 ?_; intro A4 c4 w4 own4 hb4 hk4 hg4 hz4))
  rw [← List.map_append] at own4
  have O4 := Lib.hid own4; have E4 := Lib.hid (E3.out.trans hb4)
  have hz4' := E4.out.size
  clear own4 hb4 hk4 hg4 hw3 hb3 hc1
  have a0 := Ext.cell (show w4.cell? ⟨g, 0, none⟩ = some (.int .i64 s) from (H.out.below E4.out).c0)
  have a1 := Ext.cell (show w4.cell? ⟨g', 0, none⟩ = some (.int .i64 q) from (H'.out.below E4.out).c0)
  have v1 : IntKind.i64.wrap ((s : Int) + q) = (s : Int) + q := IntWalk.i64_in _ (by omega)
  go_wp2_with fail
  refine Mix.wp_region_mix [0, 0, 0, 0, 3, 0, 0, 0, 3, 0, 1, 2, 0] (fun w' => ∃ x : Ext w4, w' = x.w) (by kernel_rfl) (by kernel_rfl) (InExt.drew _) ?_
  repeat (first | (refine Mix.wpMix_read (by rfl) ?_; go_big_quiet_step (fail); refine wpQuiet_nil ?_) | (refine Mix.wpMix_pure (by rfl) ?_; go_big_quiet_step (fail); refine wpQuiet_nil ?_))
  refine Mix.wpMix_chg (by rfl) (fun K hK => ?_)
  go_wp2_with fail
  obtain ⟨w5, hw5⟩ : ∃ w5, (w4.alloc (.cells #[.int .i64 ((s : Int) + q)] 2)).drew = w5 := ⟨_, rfl⟩
  rw [hw5]
  have E45 := Lib.hid (show Below w4.heap.size w4 w5 by rw [← hw5]; exact below_drew (below_size.alloc (Nat.le_refl _) _))
  have R5 := Lib.hid (show RdI w5 (some ⟨w4.heap.size, 0, none⟩) 1 [(s : Int) + q] by rw [← hw5]; exact (Blk.new _ _ _).drew.rd rfl (by simp))
  have hz5 := E45.out.size
  clear hw5
  refine hK _ _ ⟨⟨_, E45.out⟩, rfl⟩ ?_
  clear hK K
  refine Mix.wpMix_tail (by rfl) (fun K hK => ?_)
  refine wp_appA (by rfl) _ _ (by rfl) w.heap.size A4 (1 + xn) c4 _ (by rfl) (by exact O4.out.keep E45.out) (some ⟨w4.heap.size, 0, none⟩) 1 1 [(s : Int) + q] (by rfl) (by exact R5.out) (by omega) (by omega) ?_
  intro A6 c6 w6 own6 hb6 hk6 hg6 hz6
  rw [← List.map_append] at own6
  have O6 := Lib.hid own6; have E6 := Lib.hid ((E4.out.trans (E45.out.mono (by omega))).trans hb6)
  have hz6' := E6.out.size
  clear own6 hb6 hk6 hg6
  go_wp2_with fail
  refine hK _ _ ?_
  clear hK K
  repeat (first | (refine Mix.wpMix_read (by rfl) ?_; go_big_quiet_step (fail); refine wpQuiet_nil ?_) | (refine Mix.wpMix_pure (by rfl) ?_; go_big_quiet_step (fail); refine wpQuiet_nil ?_))
  (refine Mix.wpMix_nil ?_; try simp only [Exit.then])
  clear a0 a1
  have hP6 := H'.out.below E6.out
  have hc2 := hP6.c2
  have R6 := Lib.hid hP6.rd'
  have HM6 := Lib.hid (H.out.below E6.out)
  clear hP6
  go_wp2_with (first
    | (at_builtin; refine wp_appA (by rfl) _ _ (by rfl) w.heap.size A6 (1 + xn + 1) c6 _ (by rfl) (by exact O6.out) YA yn yc ys (by rfl) (by exact R6.out) (by omega) hz6' ?_; intro A7 c7 w7 own7 hb7 hk7 hg7 hz7; have O7 := Lib.hid own7; have E7 := Lib.hid (E6.out.trans hb7); have HM7 := Lib.hid (H.out.below E7.out); have hz7' := E7.out.size; clear own7 hb7 hk7 hg7)
    | (go_at_call 51; refine (l16Border_c g s t e RA rn rc rs w7 HM7.out (by omega) ht HEE.out).mono ?_; rintro e' w8 ⟨rfl, hq8⟩; have E78 := Lib.hid (show Below w7.heap.size w7 w8 by obtain ⟨j, rfl⟩ := hq8; exact below_drewN below_size j); clear hq8; have O8 := Lib.hid (O7.out.keep E78.out); have hz8 := E78.out.size)
    | (at_builtin; refine wp_appA (by rfl) _ _ (by rfl) w.heap.size A7 (1 + xn + 1 + yn) c7 _ (by rfl) (by exact O8.out.alloc _) (some ⟨w8.heap.size, 0, none⟩) 1 1 [e] (by rfl) (by exact (Blk.new _ _ _).rd (by rfl) (by simp)) (by omega) (by rw [World.size_alloc]; omega) ?_; intro A9 c9 w9 own9 hb9 hk9 hg9 hz9))
  rw [← List.map_append, ← List.map_append] at own9
  have E9 := Lib.hid ((((E7.out.trans (E78.out.mono hz7')).alloc (by omega) (.cells #[.int .i64 e] 2))).trans hb9)
  have O9 := Lib.hid (show Own w9 w.heap.size 2 1 A9 W.length c9 (W.map i64) by
    have h7 := own9
    rw [show 1 + xn + 1 + yn + 1 = W.length by omega] at h7
    rwa [show ([e] ++ xs.reverse ++ [(s : Int) + q] ++ ys ++ [e] : List Int) = W by rw [← HW.out]; simp] at h7)
  have HN := Lib.hid (show 1 + xn + 1 + yn + 1 = W.length by omega)
  clear own9 hb9 hk9 hg9
  go_ret
  rw [HN.out]
  exact ⟨A9, c9, rfl, O9.out.wr, hWl, O9.out.cap, E9.out⟩
end Go.Proofs.Ytcbcjhfeidkeaaa
