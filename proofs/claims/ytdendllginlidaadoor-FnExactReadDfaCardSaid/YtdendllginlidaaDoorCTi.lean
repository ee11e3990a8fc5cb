/-
  Texts of automata, third part: the program's DfaText.
-/
import Derived.Test.YtdendllginlidaaDoorCTh
import Derived.Test.YtdendllginlidaaDoorMixB
namespace Go.Proofs.YtdendllginlidaaDoor
open Go.RowKit Go.Shelf
attribute [local go_sem] Oper.semAt_some

/-- an append onto a row of one's own, as one operation of a region -/
theorem operIn_append {F : Fence} {m0 : Nat} {P : Program} (w : World) {o : Oper} {a : Act} {K : Act → World → Prop} {Q : Exit → Act → World → Prop} (x0 x1 : Operand) (t : TypeId) (hop : o.op = .call { callee := .builtin .append, args := #[x0, x1], argTypes := #[t, t] })
    (B : Nat) (e : TypeId) (i : TypeInfo) (z : Value) (bytes : Nat) (h1 : P.underlying t = some (.slice e)) (h2 : P.info? e = some i) (h3 : i.zero = some z) (h4 : i.size = 1) (h5 : i.bytes = bytes) (h6 : z.cells.size = 1)
    (v : Value) (k : Nat) (vs : List Value) (hs : a.eval x0 = v) (hown : w.ownsRow B e 1 v k vs) (g : Nat) (u : Value) (hx : a.eval x1 = .slice (some ⟨g, 0, none⟩) 1 1) (hu : w.cell? ⟨g, 0, none⟩ = some u) (h1c : u.oneCell' = true)
    (b1 : k + 1 ≤ maxLen) (b2 : (k + 1) * bytes ≤ 140737488355328) (b3 : B ≤ w.heap.size)
    (hK : ∀ v' w', w'.ownsRow B e 1 v' (k + 1) (vs ++ [u]) → w.grownBy w' v.ownBlock → K (a.put o.dst v') w') : o.wpIn F m0 P a w K Q := by
  obtain ⟨v', w', hrun, r1, r2, _⟩ := run_append_own (P := P) w B t o.type e i z 1 bytes h1 h2 h3 h4 h5 h6 (by decide) v k vs hown ⟨g, 0, none⟩ 1 1 [u] rfl (fun j y hj => by cases j with | zero => simp at hj; subst hj; exact hu | succ j => simp at hj) (fun y hy => by simp at hy; subst hy; exact h1c) b1 b2 b3
  unfold Oper.wpIn
  refine ⟨?_, ?_⟩
  · simp [Oper.about, hop, resolve, Target.leads, Sem.run_pure]
  · rw [Oper.semAt_plain F _ _ (by rw [hop]; intro c hc'; cases hc')]
    simp [execOp, hop, resolve, invoke, builtin, hs, hx, hrun, Result.andThen]
    exact hK _ _ r1 r2
theorem daR_join {st sym : Int} {xs : List Int} {S T : Nat} (hS : sym = S) (_hT : st = T) (hs : 2 ≤ S) (hl : xs.length = T * S) (h : dfaB st sym xs = true) : daR st sym xs = daJoin S xs T := by
  rw [daR, if_pos h, hS, Int.toNat_natCast, hl]
  exact daPre_join (by omega) T (by omega)
theorem chRows (S : Nat) (xs : List Int) (T : Nat) : (List.finRange T).map (fun r => daRowT S xs r.1) = (List.range T).map (daRowT S xs) := by
  apply List.ext_getElem
  · simp
  · intro i h1 h2; simp
set_option maxRecDepth 100000 in
set_option maxHeartbeats 4000000 in
theorem iDfaText_c (st sym : Int) (g n c : Nat) (xs : List Int) (w : World) (h : RdI w (some ⟨g, 0, none⟩) n xs) (hn : n ≤ 1000000000000) (hnc : n ≤ c) (ht : Tab w) :
    Calls Tryd.prog 18 #[.agg #[.int .i64 st, .slice (some ⟨g, 0, none⟩) n c], .int .i64 sym] w fun e w' => e = .returned (.string (bs (daR st sym xs))) ∧ Below w.heap.size w w' := by
  have HL := Lib.hid h.len
  have H := Lib.hid h; clear h
  have HT := Lib.hid ht; clear ht
  cases hv : dfaB st sym xs
  · have HR := Lib.hid (show daR st sym xs = [] by rw [daR, hv]; rfl)
    go_enter Tryd.func18, Tryd.ntmps18
    go_wp2_with fail
    refine (iValidDfa_c st sym _ n c xs _ (by exact H.out.alloc _) hn).mono ?_
    rw [hv]
    rintro e w1 ⟨rfl, hb⟩
    have B1 := Lib.hid (up1 hb); clear hb hv
    go_wp2_with fail
    go_ret
    exact ⟨by rw [HR.out]; rfl, B1.out⟩
  obtain ⟨hs, hs2, hl, _, hxs⟩ := dfaB_parts hv
  obtain ⟨S, rfl⟩ : ∃ S : Nat, sym = S := ⟨sym.toNat, by omega⟩
  obtain ⟨T, rfl⟩ : ∃ T : Nat, st = T := ⟨st.toNat, by omega⟩
  have hlT : xs.length = T * S := by exact_mod_cast hl
  have hS2 : 2 ≤ S := by omega
  have hS6 : S ≤ 6 := by omega
  have hT20 : T ≤ 20 := by omega
  have HR := Lib.hid (daR_join rfl rfl hS2 hlT hv)
  have HX := Lib.hid (show i64s xs from fun x hx => by have := hxs x hx; omega)
  have hnT : T * S = n := by rw [← hlT]; exact HL.out
  clear hs hs2 hl hxs
  refine (callsIn_wide (n := 8)).1 ?_
  refine callsIn_of_wp_marks Tryd.func18 rfl trivial ?_ rfl
  simp only [Tryd.ntmps18, List.size_toArray, List.length_cons, List.length_nil, Nat.reduceAdd, Nat.reduceSub, Array.replicate_succ, Array.replicate_zero, List.push_toArray, List.append_toArray, List.nil_append, List.cons_append]
  gi_wp2_with (first
    | (refine ⟨trivial, ?_⟩; gi_at_call 17; refine (callsIn_wide.2 (iValidDfa_c T S _ n c xs _ (by exact H.out.alloc _) hn)).mono ?_; rw [hv]; rintro e w1 ⟨rfl, hb⟩; have q1 : w1.cell? ⟨w.heap.size, 1, none⟩ = some (.slice (some ⟨g, 0, none⟩) n c) := keepc hb (by simp); have q2 := fun o o' => keepa o' (keepa o q1); have B1 := Lib.hid (up1 hb); clear hb)
    | (refine ⟨trivial, ?_⟩; gi_at_call 30; refine (callsIn_wide.2 (Chunk_c (some ⟨g, 0, none⟩) n c S _ (by omega))).mono ?_; rintro e w2 ⟨rfl, rfl⟩))
  have hsz : ((((w1.alloc (.cells #[] 9)).alloc (.cells #[.slice (some ⟨w1.heap.size, 0, none⟩) 0 0] 30)).alloc (.cells #[.slice (some ⟨g, 0, none⟩) n c] 22)).alloc (.cells #[.int .i64 S] 3)).heap.size = w1.heap.size + 4 := by simp
  obtain ⟨w2, hw2⟩ : ∃ w2, (((w1.alloc (.cells #[] 9)).alloc (.cells #[.slice (some ⟨w1.heap.size, 0, none⟩) 0 0] 30)).alloc (.cells #[.slice (some ⟨g, 0, none⟩) n c] 22)).alloc (.cells #[.int .i64 S] 3) = w2 := ⟨_, rfl⟩
  have hbx : Boxed w2 (w1.heap.size + 1) 30 (.slice (some ⟨w1.heap.size, 0, none⟩) 0 0) := by
    rw [← hw2]
    have := ((Boxed.new (w1.alloc (.cells #[] 9)) 30 (.slice (some ⟨w1.heap.size, 0, none⟩) 0 0)).alloc (.cells #[.slice (some ⟨g, 0, none⟩) n c] 22)).alloc (.cells #[.int .i64 S] 3)
    rw [World.size_alloc] at this
    exact this
  have hrw : Own w2 w1.heap.size 9 1 (some ⟨w1.heap.size, 0, none⟩) 0 0 [] := by
    rw [← hw2]; exact (((Own.lit (Nat.le_refl _)).alloc _).alloc _).alloc _
  have E2 : Below w1.heap.size w1 w2 := by
    rw [← hw2]; exact (((below_size.alloc (Nat.le_refl _) _).alloc (by simp) _).alloc (by simp; omega) _).alloc (by simp; omega) _
  have hb22 : Boxed w2 (w1.heap.size + 2) 22 (.slice (some ⟨g, 0, none⟩) n c) := by
    rw [← hw2]
    have := (Boxed.new ((w1.alloc (.cells #[] 9)).alloc (.cells #[.slice (some ⟨w1.heap.size, 0, none⟩) 0 0] 30)) 22 (.slice (some ⟨g, 0, none⟩) n c)).alloc (.cells #[.int .i64 S] 3)
    simp only [World.size_alloc] at this
    exact this
  have hb23 : Boxed w2 (w1.heap.size + 3) 3 (.int .i64 S) := by
    rw [← hw2]
    have := Boxed.new (((w1.alloc (.cells #[] 9)).alloc (.cells #[.slice (some ⟨w1.heap.size, 0, none⟩) 0 0] 30)).alloc (.cells #[.slice (some ⟨g, 0, none⟩) n c] 22)) 3 (.int .i64 S)
    simp only [World.size_alloc] at this
    exact this
  have r1 : w2.cell? ⟨w1.heap.size + 2, 0, none⟩ = some (.slice (some ⟨g, 0, none⟩) (T * S) c) := by
    rw [← hw2, hnT]
    have := keepa (.cells #[.int .i64 S] 3) (new_cell ((w1.alloc (.cells #[] 9)).alloc (.cells #[.slice (some ⟨w1.heap.size, 0, none⟩) 0 0] 30)) #[.slice (some ⟨g, 0, none⟩) n c] 22 0)
    simp only [World.size_alloc] at this
    exact this
  have r2 : w2.cell? ⟨w1.heap.size + 3, 0, none⟩ = some (.int .i64 S) := by
    rw [← hw2]
    have := new_cell (((w1.alloc (.cells #[] 9)).alloc (.cells #[.slice (some ⟨w1.heap.size, 0, none⟩) 0 0] 30)).alloc (.cells #[.slice (some ⟨g, 0, none⟩) n c] 22)) #[.int .i64 S] 3 0
    simp only [World.size_alloc] at this
    exact this
  rw [hw2] at hsz ⊢
  clear hw2 q1 q2
  have HTW := Lib.hid (HT.out.below B1.out)
  have HRW := Lib.hid (show RdI w1 (some ⟨g, 0, none⟩) n xs from RdI.below H.out B1.out)
  obtain ⟨i0, hi, hz0, hz1, hz2⟩ := info_parts info_str
  refine wpIn_rangeFunc_ownG rfl (by omega) (gf := 43) (lb := #[.pointer (some ⟨w1.heap.size + 2, 0, none⟩), .pointer (some ⟨w1.heap.size + 3, 0, none⟩)]) rfl trivial (enters_of Tryd.func43 (by kernel_rfl) rfl)
    (Chunk_stops 7 (by omega) (w1.heap.size + 2) (w1.heap.size + 3) g S T c (by omega) (by omega) (by omega) w2 (by omega) (by omega) r1 r2)
    KpC.trans
    (fun W l o o' hl h1 h2 h3 => by
      have hb := belowK_b (w := w2) (n₀ := w2.heap.size) (Nat.le_refl _) W l o o' hl h1 h2 h3
      exact ⟨hb.block _ (by omega), hb.block _ (by omega)⟩)
    (Below.refl _ _) (fun _ => rfl)
    (fun (pre : List (Fin T)) W => (∃ v, Boxed W (w1.heap.size + 1) 30 v ∧ W.ownsRow w1.heap.size 9 1 v pre.length (pre.map fun r => .string (bs (daRowT S xs r.1))) ∧ True) ∧ (Boxed W (w1.heap.size + 2) 22 (.slice (some ⟨g, 0, none⟩) n c) ∧ Boxed W (w1.heap.size + 3) 3 (.int .i64 S)) ∧ Below w1.heap.size w2 W)
    (fun _ _ _ => False)
    (OwnFrom.and (Go.Own.from (holdsRow_own w1.heap.size (w1.heap.size + 1) 30 9 1 (fun (pre : List (Fin T)) => pre.length) (fun (pre : List (Fin T)) => pre.map fun r => .string (bs (daRowT S xs r.1))) (fun _ _ => True)) _) (OwnFrom.and (OwnFrom.and (Go.Own.from (boxed_own _ _ _) _) (Go.Own.from (boxed_own _ _ _) _)) (ownFrom_below (by omega) (by omega))))
    (fun _ _ _ _ _ hs _ _ => hs)
    ⟨⟨_, hbx, hrw, trivial⟩, ⟨hb22, hb23⟩, Below.refl _ _⟩
    (fun r => { tmps := #[.agg #[.int .i64 T, .slice (some ⟨g, 0, none⟩) n c], .int .i64 S, .pointer (some ⟨w.heap.size, 0, none⟩), undef, .string ⟨#[]⟩, .pointer (some ⟨w1.heap.size + 1, 0, none⟩), .slice (some ⟨g, r.1 * S, none⟩) S S, .agg #[.int .i64 T, .slice (some ⟨g, 0, none⟩) n c], .int .i64 S, .bool true, .bool false, .slice (some ⟨w1.heap.size, 0, none⟩) 0 0, .pointer (some ⟨w.heap.size, 1, none⟩), .slice (some ⟨g, 0, none⟩) n c, .int .i64 S, .func (.func 43) #[] #[.pointer (some ⟨w1.heap.size + 2, 0, none⟩), .pointer (some ⟨w1.heap.size + 3, 0, none⟩)], .slice (some ⟨g, r.1 * S, none⟩) S S, undef, undef, undef, undef, undef, undef, undef], defers := [] }) ?assign ?body ?done ?stop
  case assign =>
    intro l x W K hK
    simp only [chEnc]
    gi_wp2
    exact hK
  case body =>
    rintro l pre x W ⟨⟨v, hv, hrow, _⟩, ⟨hv22, hv23⟩, hB2⟩ hlt
    have hB := E2.trans hB2
    have hc := hv.cell
    have hmx : Tryd.prog.follows .mixedOrders = true := by kernel_rfl
    have hxS : x.1 * S + S ≤ n := by rw [← hnT, ← Nat.succ_mul]; exact Nat.mul_le_mul_right S x.2
    have HRR := Lib.hid (show RdI W (some ⟨g, x.1 * S, none⟩) S (daRow S xs x.1) from by
      have h1 := RdI.take (k := S) (RdI.drop (k := x.1 * S) (RdI.below HRW.out hB) (by omega)) (by omega)
      rw [head_add] at h1
      exact h1)
    have HXR := Lib.hid (show i64s (daRow S xs x.1) from fun y hy => HX.out y (List.mem_of_mem_drop (List.mem_of_mem_take hy)))
    have HTT := Lib.hid (HTW.out.below hB)
    have hvc : ∃ A cc, v = .slice A pre.length cc := by
      rcases hrow.2 with ⟨rfl, h0⟩ | ⟨g', cap, cur, rfl, _⟩
      · exact ⟨none, 0, by rw [h0]⟩
      · exact ⟨_, _, rfl⟩
    obtain ⟨A0, cc0, rfl⟩ := hvc
    have hpl : pre.length < T := hlt
    have KEEP : ∀ w3, Below W.heap.size W w3 → Boxed w3 (w1.heap.size + 1) 30 (.slice A0 pre.length cc0) ∧ w3.ownsRow w1.heap.size 9 1 (.slice A0 pre.length cc0) pre.length (pre.map fun r => .string (bs (daRowT S xs r.1))) ∧ Below w1.heap.size w1 w3 := fun w3 hb => ⟨(hb.block _ hv.lt).trans hv, Own.keep (A := A0) (n := pre.length) (c := cc0) hrow hb, hB.trans (hb.mono hB.size)⟩
    gi_wp2
    refine wpIn_region_any (by assumption) ?_
    try (change wpAnyIn _ _ _ _ _ _ _ _ _ (World.drew _))
    refine wpAnyIn_ready (rs := [0, 1]) (by kernel_rfl) (by simp) ?_
    refine AllReadyIn.cons rfl (fun K hK => ?_) ?_
    · go_simp
      refine hK _ _ ?_
      clear hK K
      refine wpAnyIn_ready (rs := [1]) (by kernel_rfl) (by simp) ?_
      refine AllReadyIn.cons rfl (fun K hK => ?_) ?_
      · go_simp
        refine hK _ _ ?_
        clear hK K
        refine wpAnyIn_ready (rs := [2]) (by kernel_rfl) (by simp) ?_
        refine AllReadyIn.cons rfl (fun K hK => ?_) ?_
        · go_simp
          gi_wp2_with (refine ⟨trivial, ?_⟩; gi_at_call 31; refine (CallsIn.inRound l (callsIn_wide.2 (decimals_c (some ⟨g, x.1 * S, none⟩) S S (daRow S xs x.1) 44 _ (by exact HRR.out) (by omega) HXR.out (by exact HTT.out)))).mono ?_; rintro e w3 ⟨rfl, hb3⟩; obtain ⟨hv3, hrow3, hB3⟩ := KEEP w3 (by first | exact below_of_drew hb3 | exact hb3); have hc3 := hv3.cell; have hc4 := fun o => keepa o hc3; have hz3 := hB3.size)
          refine wpAnyIn_ready (rs := [3]) (by kernel_rfl) (by simp) ?_
          refine AllReadyIn.cons rfl (fun K hK => ?_) ?_
          · go_simp
            refine hK _ _ ?_
            clear hK K
            refine wpAnyIn_ready (rs := [4]) (by kernel_rfl) (by simp) ?_
            refine AllReadyIn.cons rfl (fun K hK => ?_) ?_
            · skip
              (rw [if_pos (by rfl)]; refine operIn_append _ _ _ 30 rfl w1.heap.size 9 i0 (.string ⟨#[]⟩) 16 Tryd.underlying30 hi hz0 hz1 hz2 rfl _ pre.length _ rfl (hrow3.alloc _) w3.heap.size (.string (bs (daRowT S xs x.1))) rfl (new_cell _ _ _ 0) rfl (by simp only [maxLen]; omega) (by omega) (by simp; omega) ?_; intro v' w4 hown' hgrow; obtain ⟨g', cap', rfl⟩ := ownsRow_succ hown'; obtain ⟨hv1, hv2, hr2, hk2, hb2⟩ := hv3.appended (by decide) hrow3 hB3.size (by omega) hown' hgrow; have hc1 := hv1.cell; have hf1 := hv1.frozen)
              refine hK _ _ ?_
              clear hK K
              refine wpAnyIn_ready (rs := [5]) (by kernel_rfl) (by simp) ?_
              refine AllReadyIn.cons rfl (fun K hK => ?_) ?_
              · go_simp
                refine hK _ _ ?_
                clear hK K
                refine wpAnyIn_done (by kernel_rfl) ?_ _
                have b3 : Below W.heap.size W w3 := by first | exact below_of_drew hb3 | exact hb3
                have x22 : Boxed w3 (w1.heap.size + 2) 22 (.slice (some ⟨g, 0, none⟩) n c) := (b3.block _ hv22.lt).trans hv22
                have x23 : Boxed w3 (w1.heap.size + 3) 3 (.int .i64 S) := (b3.block _ hv23.lt).trans hv23
                have z22 := (((x22.alloc (.cells #[.string (bs (daRowT S xs x.1))] 9)).kept hgrow (x22.not_row (by decide) hrow3)).other (B' := w1.heap.size + 1) (by omega) (.slice (some ⟨g', 0, none⟩) (pre.length + 1) cap'))
                have z23 := (((x23.alloc (.cells #[.string (bs (daRowT S xs x.1))] 9)).kept hgrow (x23.not_row (by decide) hrow3)).other (B' := w1.heap.size + 1) (by omega) (.slice (some ⟨g', 0, none⟩) (pre.length + 1) cap'))
                exact ⟨((KeepsOthers.of_grownBy (row := none) ⟨b3.os, b3.tape, b3.output, b3.size, fun k hk _ => b3.block k hk⟩ (fun j o e => by cases e)).trans hk2).from _, ⟨Eq.trans z22 (Eq.symm hv22), Eq.trans z23 (Eq.symm hv23)⟩, ⟨_, hv2, by simpa using hr2, trivial⟩, ⟨z22, z23⟩, (hB2.trans (b3.mono hB.size)).trans hb2⟩
              exact AllReadyIn.nil
            exact AllReadyIn.nil
          exact AllReadyIn.nil
        exact AllReadyIn.nil
      exact AllReadyIn.nil
    refine AllReadyIn.cons rfl (fun K hK => ?_) ?_
    · go_simp
      refine hK _ _ ?_
      clear hK K
      refine wpAnyIn_ready (rs := [0, 2]) (by kernel_rfl) (by simp) ?_
      refine AllReadyIn.cons rfl (fun K hK => ?_) ?_
      · go_simp
        refine hK _ _ ?_
        clear hK K
        refine wpAnyIn_ready (rs := [2]) (by kernel_rfl) (by simp) ?_
        refine AllReadyIn.cons rfl (fun K hK => ?_) ?_
        · go_simp
          gi_wp2_with (refine ⟨trivial, ?_⟩; gi_at_call 31; refine (CallsIn.inRound l (callsIn_wide.2 (decimals_c (some ⟨g, x.1 * S, none⟩) S S (daRow S xs x.1) 44 _ (by exact HRR.out) (by omega) HXR.out (by exact HTT.out)))).mono ?_; rintro e w3 ⟨rfl, hb3⟩; obtain ⟨hv3, hrow3, hB3⟩ := KEEP w3 (by first | exact below_of_drew hb3 | exact hb3); have hc3 := hv3.cell; have hc4 := fun o => keepa o hc3; have hz3 := hB3.size)
          refine wpAnyIn_ready (rs := [3]) (by kernel_rfl) (by simp) ?_
          refine AllReadyIn.cons rfl (fun K hK => ?_) ?_
          · go_simp
            refine hK _ _ ?_
            clear hK K
            refine wpAnyIn_ready (rs := [4]) (by kernel_rfl) (by simp) ?_
            refine AllReadyIn.cons rfl (fun K hK => ?_) ?_
            · skip
              (rw [if_pos (by rfl)]; refine operIn_append _ _ _ 30 rfl w1.heap.size 9 i0 (.string ⟨#[]⟩) 16 Tryd.underlying30 hi hz0 hz1 hz2 rfl _ pre.length _ rfl (hrow3.alloc _) w3.heap.size (.string (bs (daRowT S xs x.1))) rfl (new_cell _ _ _ 0) rfl (by simp only [maxLen]; omega) (by omega) (by simp; omega) ?_; intro v' w4 hown' hgrow; obtain ⟨g', cap', rfl⟩ := ownsRow_succ hown'; obtain ⟨hv1, hv2, hr2, hk2, hb2⟩ := hv3.appended (by decide) hrow3 hB3.size (by omega) hown' hgrow; have hc1 := hv1.cell; have hf1 := hv1.frozen)
              refine hK _ _ ?_
              clear hK K
              refine wpAnyIn_ready (rs := [5]) (by kernel_rfl) (by simp) ?_
              refine AllReadyIn.cons rfl (fun K hK => ?_) ?_
              · go_simp
                refine hK _ _ ?_
                clear hK K
                refine wpAnyIn_done (by kernel_rfl) ?_ _
                have b3 : Below W.heap.size W w3 := by first | exact below_of_drew hb3 | exact hb3
                have x22 : Boxed w3 (w1.heap.size + 2) 22 (.slice (some ⟨g, 0, none⟩) n c) := (b3.block _ hv22.lt).trans hv22
                have x23 : Boxed w3 (w1.heap.size + 3) 3 (.int .i64 S) := (b3.block _ hv23.lt).trans hv23
                have z22 := (((x22.alloc (.cells #[.string (bs (daRowT S xs x.1))] 9)).kept hgrow (x22.not_row (by decide) hrow3)).other (B' := w1.heap.size + 1) (by omega) (.slice (some ⟨g', 0, none⟩) (pre.length + 1) cap'))
                have z23 := (((x23.alloc (.cells #[.string (bs (daRowT S xs x.1))] 9)).kept hgrow (x23.not_row (by decide) hrow3)).other (B' := w1.heap.size + 1) (by omega) (.slice (some ⟨g', 0, none⟩) (pre.length + 1) cap'))
                exact ⟨((KeepsOthers.of_grownBy (row := none) ⟨b3.os, b3.tape, b3.output, b3.size, fun k hk _ => b3.block k hk⟩ (fun j o e => by cases e)).trans hk2).from _, ⟨Eq.trans z22 (Eq.symm hv22), Eq.trans z23 (Eq.symm hv23)⟩, ⟨_, hv2, by simpa using hr2, trivial⟩, ⟨z22, z23⟩, (hB2.trans (b3.mono hB.size)).trans hb2⟩
              exact AllReadyIn.nil
            exact AllReadyIn.nil
          exact AllReadyIn.nil
        exact AllReadyIn.nil
      refine AllReadyIn.cons rfl (fun K hK => ?_) ?_
      · go_simp
        gi_wp2_with (refine ⟨trivial, ?_⟩; gi_at_call 31; refine (CallsIn.inRound l (callsIn_wide.2 (decimals_c (some ⟨g, x.1 * S, none⟩) S S (daRow S xs x.1) 44 _ (by exact HRR.out) (by omega) HXR.out (by exact HTT.out)))).mono ?_; rintro e w3 ⟨rfl, hb3⟩; obtain ⟨hv3, hrow3, hB3⟩ := KEEP w3 (by first | exact below_of_drew hb3 | exact hb3); have hc3 := hv3.cell; have hc4 := fun o => keepa o hc3; have hz3 := hB3.size)
        refine wpAnyIn_ready (rs := [0, 3]) (by kernel_rfl) (by simp) ?_
        refine AllReadyIn.cons rfl (fun K hK => ?_) ?_
        · go_simp
          refine hK _ _ ?_
          clear hK K
          refine wpAnyIn_ready (rs := [3]) (by kernel_rfl) (by simp) ?_
          refine AllReadyIn.cons rfl (fun K hK => ?_) ?_
          · go_simp
            refine hK _ _ ?_
            clear hK K
            refine wpAnyIn_ready (rs := [4]) (by kernel_rfl) (by simp) ?_
            refine AllReadyIn.cons rfl (fun K hK => ?_) ?_
            · skip
              (rw [if_pos (by rfl)]; refine operIn_append _ _ _ 30 rfl w1.heap.size 9 i0 (.string ⟨#[]⟩) 16 Tryd.underlying30 hi hz0 hz1 hz2 rfl _ pre.length _ rfl (hrow3.alloc _) w3.heap.size (.string (bs (daRowT S xs x.1))) rfl (new_cell _ _ _ 0) rfl (by simp only [maxLen]; omega) (by omega) (by simp; omega) ?_; intro v' w4 hown' hgrow; obtain ⟨g', cap', rfl⟩ := ownsRow_succ hown'; obtain ⟨hv1, hv2, hr2, hk2, hb2⟩ := hv3.appended (by decide) hrow3 hB3.size (by omega) hown' hgrow; have hc1 := hv1.cell; have hf1 := hv1.frozen)
              refine hK _ _ ?_
              clear hK K
              refine wpAnyIn_ready (rs := [5]) (by kernel_rfl) (by simp) ?_
              refine AllReadyIn.cons rfl (fun K hK => ?_) ?_
              · go_simp
                refine hK _ _ ?_
                clear hK K
                refine wpAnyIn_done (by kernel_rfl) ?_ _
                have b3 : Below W.heap.size W w3 := by first | exact below_of_drew hb3 | exact hb3
                have x22 : Boxed w3 (w1.heap.size + 2) 22 (.slice (some ⟨g, 0, none⟩) n c) := (b3.block _ hv22.lt).trans hv22
                have x23 : Boxed w3 (w1.heap.size + 3) 3 (.int .i64 S) := (b3.block _ hv23.lt).trans hv23
                have z22 := (((x22.alloc (.cells #[.string (bs (daRowT S xs x.1))] 9)).kept hgrow (x22.not_row (by decide) hrow3)).other (B' := w1.heap.size + 1) (by omega) (.slice (some ⟨g', 0, none⟩) (pre.length + 1) cap'))
                have z23 := (((x23.alloc (.cells #[.string (bs (daRowT S xs x.1))] 9)).kept hgrow (x23.not_row (by decide) hrow3)).other (B' := w1.heap.size + 1) (by omega) (.slice (some ⟨g', 0, none⟩) (pre.length + 1) cap'))
                exact ⟨((KeepsOthers.of_grownBy (row := none) ⟨b3.os, b3.tape, b3.output, b3.size, fun k hk _ => b3.block k hk⟩ (fun j o e => by cases e)).trans hk2).from _, ⟨Eq.trans z22 (Eq.symm hv22), Eq.trans z23 (Eq.symm hv23)⟩, ⟨_, hv2, by simpa using hr2, trivial⟩, ⟨z22, z23⟩, (hB2.trans (b3.mono hB.size)).trans hb2⟩
              exact AllReadyIn.nil
            exact AllReadyIn.nil
          exact AllReadyIn.nil
        refine AllReadyIn.cons rfl (fun K hK => ?_) ?_
        · go_simp
          refine hK _ _ ?_
          clear hK K
          refine wpAnyIn_ready (rs := [0]) (by kernel_rfl) (by simp) ?_
          refine AllReadyIn.cons rfl (fun K hK => ?_) ?_
          · go_simp
            refine hK _ _ ?_
            clear hK K
            refine wpAnyIn_ready (rs := [4]) (by kernel_rfl) (by simp) ?_
            refine AllReadyIn.cons rfl (fun K hK => ?_) ?_
            · skip
              (rw [if_pos (by rfl)]; refine operIn_append _ _ _ 30 rfl w1.heap.size 9 i0 (.string ⟨#[]⟩) 16 Tryd.underlying30 hi hz0 hz1 hz2 rfl _ pre.length _ rfl (hrow3.alloc _) w3.heap.size (.string (bs (daRowT S xs x.1))) rfl (new_cell _ _ _ 0) rfl (by simp only [maxLen]; omega) (by omega) (by simp; omega) ?_; intro v' w4 hown' hgrow; obtain ⟨g', cap', rfl⟩ := ownsRow_succ hown'; obtain ⟨hv1, hv2, hr2, hk2, hb2⟩ := hv3.appended (by decide) hrow3 hB3.size (by omega) hown' hgrow; have hc1 := hv1.cell; have hf1 := hv1.frozen)
              refine hK _ _ ?_
              clear hK K
              refine wpAnyIn_ready (rs := [5]) (by kernel_rfl) (by simp) ?_
              refine AllReadyIn.cons rfl (fun K hK => ?_) ?_
              · go_simp
                refine hK _ _ ?_
                clear hK K
                refine wpAnyIn_done (by kernel_rfl) ?_ _
                have b3 : Below W.heap.size W w3 := by first | exact below_of_drew hb3 | exact hb3
                have x22 : Boxed w3 (w1.heap.size + 2) 22 (.slice (some ⟨g, 0, none⟩) n c) := (b3.block _ hv22.lt).trans hv22
                have x23 : Boxed w3 (w1.heap.size + 3) 3 (.int .i64 S) := (b3.block _ hv23.lt).trans hv23
                have z22 := (((x22.alloc (.cells #[.string (bs (daRowT S xs x.1))] 9)).kept hgrow (x22.not_row (by decide) hrow3)).other (B' := w1.heap.size + 1) (by omega) (.slice (some ⟨g', 0, none⟩) (pre.length + 1) cap'))
                have z23 := (((x23.alloc (.cells #[.string (bs (daRowT S xs x.1))] 9)).kept hgrow (x23.not_row (by decide) hrow3)).other (B' := w1.heap.size + 1) (by omega) (.slice (some ⟨g', 0, none⟩) (pre.length + 1) cap'))
                exact ⟨((KeepsOthers.of_grownBy (row := none) ⟨b3.os, b3.tape, b3.output, b3.size, fun k hk _ => b3.block k hk⟩ (fun j o e => by cases e)).trans hk2).from _, ⟨Eq.trans z22 (Eq.symm hv22), Eq.trans z23 (Eq.symm hv23)⟩, ⟨_, hv2, by simpa using hr2, trivial⟩, ⟨z22, z23⟩, (hB2.trans (b3.mono hB.size)).trans hb2⟩
              exact AllReadyIn.nil
            exact AllReadyIn.nil
          exact AllReadyIn.nil
        exact AllReadyIn.nil
      exact AllReadyIn.nil
    exact AllReadyIn.nil
  case done =>
    rintro D ys W hD rfl ⟨⟨v, hv, hrow, _⟩, _, hB2⟩ hK
    have hB := E2.trans hB2
    have hyl : (List.finRange T).length = T := by simp
    have hvc : ∃ A cc, v = .slice A T cc := by
      rcases hrow.2 with ⟨rfl, h0⟩ | ⟨g', cap, cur, rfl, _⟩
      · exact ⟨none, 0, by rw [← hyl, h0]⟩
      · exact ⟨_, _, by rw [hyl]⟩
    obtain ⟨A0, cc0, rfl⟩ := hvc
    have hc := hv.cell
    have hrow2 : Own W w1.heap.size 9 1 A0 T cc0 (((List.range T).map (daRowT S xs)).map fun l => .string (bs l)) := by
      rw [← chRows, List.map_map]
      have := hrow
      rw [hyl] at this
      exact this
    have hjl : (Lib.join ((List.range T).map (daRowT S xs)) [59]).length ≤ 140737488355328 := by
      have h1 := daPre_len (s := S) HX.out (T * S) (by omega)
      rw [daPre_join (by omega) T (by omega), daJoin] at h1
      have h2 : T * S ≤ 120 := Nat.le_trans (Nat.mul_le_mul hT20 hS6) (by omega)
      omega
    gi_wp2_with (first
      | (refine ⟨trivial, ?_⟩; gi_at_call 32; refine (callsIn_wide.2 (Join_c A0 T cc0 w1.heap.size ((List.range T).map (daRowT S xs)) [59] _ (by exact hrow2) (by omega) hjl)).mono ?_; rintro e w5 ⟨rfl, hb5⟩; have hK5 := (hb5.block _ (Array.getElem?_eq_some_iff.1 hK).1).trans hK))
    refine ⟨by simp, .inl ⟨_, _, rfl, run_takeDeferred hK5, ?_⟩⟩
    exact ⟨_, results_tmp rfl _ _ _, by rw [HR.out]; rfl, ((B1.out.trans (hB.mono B1.out.size)).trans (hb5.mono (Nat.le_trans B1.out.size hB.size))).trans (belowK_b (w := w) (Nat.le_refl _) w5 D _ _ (by have := B1.out.size; omega) hK5 rfl rfl)⟩
  case stop =>
    rintro D c pre W _ _ h _
    exact h.elim
end Go.Proofs.YtdendllginlidaaDoor
