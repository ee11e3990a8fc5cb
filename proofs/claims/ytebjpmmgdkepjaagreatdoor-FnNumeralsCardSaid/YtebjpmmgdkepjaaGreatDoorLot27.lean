/-
  Parts of the proof, one behind the other: contracts of the functions that the law reaches, and plain laws.
-/
import Derived.Test.YtebjpmmgdkepjaaGreatDoorLot07
import Derived.Test.YtebjpmmgdkepjaaGreatDoorLot09
import Derived.Test.YtebjpmmgdkepjaaGreatDoorLot25
import Derived.Test.YtebjpmmgdkepjaaGreatDoorLot26
/-
  Contracts of chapter 11 (recursive functions): the program's followers, funcEnd, isFunc, ValidFunc.
-/
namespace Go.Proofs.YtebjpmmgdkepjaaGreatDoor
open Go.RowKit
open FTr

theorem nodeF_idx {a i : Int} (h : nodeF (3, a, i) = true) : 1 ≤ i ∧ i ≤ 4 := by
  unfold nodeF at h
  simp at h
  exact inB_t h.2
theorem Blk.own {w : World} {B g : Nat} {e : TypeId} {v : Value} (h : Blk w g e #[v]) (hB : B ≤ g) : Own w B e 1 (some ⟨g, 0, none⟩) 1 1 [v] :=
  ⟨rfl, .inr ⟨g, 1, #[v], rfl, hB, h, Nat.le_refl _, by simp [maxLen], rfl, rfl⟩⟩
/-- append, walked as one operation -/
theorem wpo_app {o : Oper} {a : Act} {w : World} {K : Act → World → Prop} {F : Exit → Act → World → Prop} (s x : Operand) (t e : TypeId) (z : Value) (size bytes : Nat)
    (ho : o.op = .call { callee := .builtin .append, args := #[s, x], argTypes := #[t, t] })
    (ht : Tryz.prog.underlying t = some (.slice e)) (hinfo : (Tryz.prog.info? e).map (fun i => (i.zero, i.size, i.bytes)) = some (some z, size, bytes)) (hzs : z.cells.size = size) (hsz : 0 < size)
    (B : Nat) (A : Option Addr) (n c : Nat) (vs : List Value) (hs : a.eval s = .slice A n c) (hown : Own w B e size A n c vs)
    (ad : Addr) (m c' : Nat) (news : List Value) (hx : a.eval x = .slice (some ad) m c') (hm : 0 < m) (hl : news.length = m * size) (hnews : ∀ j u, news[j]? = some u → w.cell? (ad.add j) = some u) (h1 : ∀ u ∈ news, u.oneCell' = true)
    (hlen : n + m ≤ 10000000000000) (hby : (n + m) * bytes ≤ 140737488355328) (hB : B ≤ w.heap.size)
    (h : ∀ g' cap w', Own w' B e size (some ⟨g', 0, none⟩) (n + m) cap (vs ++ news) → Below B w w' → (∀ b, b < w.heap.size → (∀ ad', A = some ad' → ad'.block ≠ b) → w'.heap[b]? = w.heap[b]?) → (A = some ⟨g', 0, none⟩ ∨ g' = w.heap.size) → w.heap.size ≤ w'.heap.size →
      K (a.put o.dst (.slice (some ⟨g', 0, none⟩) (n + m) cap)) w') : o.wp Tryz.prog a w K F := by
  obtain ⟨i, hi0, hi1⟩ := Option.map_eq_some_iff.1 hinfo
  simp only [Prod.mk.injEq] at hi1
  obtain ⟨e1, e2, e3⟩ := hi1
  have hbytes := hby
  obtain ⟨v', w', hrun, h2, h3, _, h5⟩ := run_append_own_at (P := Tryz.prog) w B t o.type e i z size bytes ht hi0 e1 e2 e3 hzs hsz (.slice A n c) n vs hown ad m c' news hl hnews h1 (by simp only [maxLen]; omega) hbytes hB
  unfold Oper.wp execOp
  simp only [ho, resolve, invoke, builtin, Sem.run_bind, Sem.run_pure, Result.andThen_ok, List.map_toArray, List.map_cons, List.map_nil, hs, hx, hrun]
  obtain ⟨g', cap, hv⟩ : ∃ g' cap, v' = .slice (some ⟨g', 0, none⟩) (n + m) cap := by
    rcases h2.2 with ⟨_, h0⟩ | ⟨g', cap, _, hv, _⟩
    · omega
    · exact ⟨g', cap, hv⟩
  subst hv
  have hA : A = some ⟨g', 0, none⟩ ∨ g' = w.heap.size := by
    rcases h5 with h5 | h5
    · cases A with
      | none => simp [Value.ownBlock] at h5
      | some ad' =>
        simp [Value.ownBlock] at h5
        have := (hown.block rfl).2.2.1
        rw [this, ← h5]; exact .inl rfl
    · simp [Value.ownBlock] at h5; exact .inr h5
  refine h g' cap w' h2 ?_ ?_ hA h3.size
  · refine ⟨h3.os, h3.tape, h3.output, h3.size, fun k hk => h3.block k (by omega) ?_⟩
    cases A with
    | none => simp [Value.ownBlock]
    | some ad' =>
      have := (hown.block rfl).1
      simp [Value.ownBlock]; omega
  · intro b hb hne
    refine h3.block b hb ?_
    cases A with
    | none => simp [Value.ownBlock]
    | some ad' =>
      have := hne ad' rfl
      simp [Value.ownBlock]; omega

def FolOut (x : Nd3) (m : Nat) (w : World) (e : Ending) (w' : World) : Prop := ∃ A c, e = .returned (.slice A m c) ∧ RdI w' A m (folF x) ∧ Below w.heap.size w w'
set_option maxHeartbeats 4000000 in
set_option maxRecDepth 100000 in
theorem followers_c (x : Nd3) (w : World) (hx : nodeF x = true) (m : Nat) (hm : (folF x).length = m) :
    Calls Tryz.prog 169 #[.agg #[.int .i64 x.1, .int .i64 x.2.1, .int .i64 x.2.2]] w (FolOut x m w) := by
  have hb := nodeF_bd hx
  obtain ⟨k, a, i⟩ := x
  simp only at hb ⊢
  by_cases k3 : k = 3
  · subst k3
    have hi4 : 1 ≤ i ∧ i ≤ 4 := nodeF_idx hx
    obtain ⟨m0, rfl⟩ : ∃ m0 : Nat, i = (m0 : Int) := ⟨i.toNat, by omega⟩
    have hf : folF (3, a, (m0 : Int)) = (m0 : Int) :: List.replicate m0 a := by unfold folF; simp
    obtain rfl : 1 + m0 = m := by rw [← hm, hf]; simp; omega
    have HF := Lib.hid hf
    have EW : ∀ w1 : World, Below (w.alloc (.cells #[i64 3, i64 a, i64 m0] 77)).drew.heap.size (w.alloc (.cells #[i64 3, i64 a, i64 m0] 77)).drew w1 → Below (w.alloc (.cells #[i64 3, i64 a, i64 m0] 77)).heap.size (w.alloc (.cells #[i64 3, i64 a, i64 m0] 77)) w1 := fun w1 hb => below_of_drew hb
    clear hm hf hx
    go_enter Tryz.func169, Tryz.ntmps169
    go_wp2_with fail
    -- region
    refine MixA.wp_facts2 9 [7, 8, 9, 10, 11, 12, 13, 14, 15] [[], [0], [1], [], [3], [4], [], [6], [5, 7]]
      [MixA.fP (.pointer (some ⟨w.heap.size, 2, none⟩)),
       MixA.fP (.int .i64 m0),
       MixA.fC 2 1 #[.int .i64 m0],
       MixA.fP (.pointer (some ⟨w.heap.size, 1, none⟩)),
       MixA.fP (.int .i64 a),
       MixA.fC 2 1 #[.int .i64 a],
       MixA.fP (.pointer (some ⟨w.heap.size, 2, none⟩)),
       MixA.fP (.int .i64 m0),
       MixA.fO m0 (List.replicate m0 a)]
      (by kernel_rfl) (by kernel_rfl) (fun t ht => Nat.lt_of_lt_of_eq (show t < 32 by revert t; decide) rfl) ?_ ?_
    · intro f hf
      simp only [List.mem_cons, List.not_mem_nil, or_false] at hf
      rcases hf with rfl | rfl | rfl | rfl | rfl | rfl | rfl | rfl | rfl
      · exact MixA.fP_st _
      · exact MixA.fP_st _
      · exact MixA.fC_st _ _ _
      · exact MixA.fP_st _
      · exact MixA.fP_st _
      · exact MixA.fC_st _ _ _
      · exact MixA.fP_st _
      · exact MixA.fP_st _
      · exact MixA.fO_st _ _
    simp only [MixA.EachG]
    refine ⟨?_, ?_, ?_, ?_, ?_, ?_, ?_, ?_, ?_, ?_⟩
    · intro a1 w1 hf
      refine MixA.hop ⟨#[undef, (.pointer (some ⟨w.heap.size, 0, none⟩)), undef, undef, undef, undef, undef, undef], []⟩ (by intro cs b e; cases e) rfl (show 7 < 8 by decide) ?_ ?_
      · intro x hx
        simp [Op.operands] at hx
        rcases hx with rfl
        · exact (hf.was (t := 1) (by decide) rfl).trans rfl
      go_wp2_with fail
      first | exact ⟨below_size, rfl⟩ | exact ⟨_, rfl, below_size, rfl⟩
    · intro a1 w1 hf
      have E1 := EW w1 hf.below
      have hc1 : w1.cell? ⟨w.heap.size, 1, none⟩ = some (i64 a) := keepc E1 (new_cell _ _ _ 1)
      have hc2 : w1.cell? ⟨w.heap.size, 2, none⟩ = some (i64 m0) := keepc E1 (new_cell _ _ _ 2)
      clear E1
      refine MixA.hop ⟨#[undef, undef, undef, undef, undef, undef, undef, (.pointer (some ⟨w.heap.size, 2, none⟩)), undef], []⟩ (by intro cs b e; cases e) rfl (show 8 < 9 by decide) ?_ ?_
      · intro x hx
        simp [Op.operands] at hx
        rcases hx with rfl
        · exact (hf.pure (j := 0) (by decide) rfl).trans rfl
      go_wp2_with fail
      first | exact ⟨below_size, rfl⟩ | exact ⟨_, rfl, below_size, rfl⟩
    · intro a1 w1 hf
      obtain ⟨R, hR, _⟩ := hf.facts
      have hv8 : MixA.val a1 8 = .int .i64 m0 := (hR 1 (by decide)).1
      clear hR
      refine MixA.hop ⟨#[undef, undef, undef, undef, undef, undef, undef, undef, (.int .i64 m0), undef], []⟩ (by intro cs b e; cases e) rfl (show 9 < 10 by decide) ?_ ?_
      · intro x hx
        simp [Op.operands] at hx
        rcases hx with rfl
        · exact hv8.trans rfl
      go_wp2_with fail
      first | exact ⟨below_size.alloc (Nat.le_refl _) _, w1.heap.size, rfl, Nat.le_refl _, by simp, Blk.new w1 _ _⟩ | exact ⟨_, rfl, below_size.alloc (Nat.le_refl _) _, w1.heap.size, rfl, Nat.le_refl _, by simp, Blk.new w1 _ _⟩
    · intro a1 w1 hf
      refine MixA.hop ⟨#[undef, (.pointer (some ⟨w.heap.size, 0, none⟩)), undef, undef, undef, undef, undef, undef, undef, undef, undef], []⟩ (by intro cs b e; cases e) rfl (show 10 < 11 by decide) ?_ ?_
      · intro x hx
        simp [Op.operands] at hx
        rcases hx with rfl
        · exact (hf.was (t := 1) (by decide) rfl).trans rfl
      go_wp2_with fail
      first | exact ⟨below_size, rfl⟩ | exact ⟨_, rfl, below_size, rfl⟩
    · intro a1 w1 hf
      have E1 := EW w1 hf.below
      have hc1 : w1.cell? ⟨w.heap.size, 1, none⟩ = some (i64 a) := keepc E1 (new_cell _ _ _ 1)
      have hc2 : w1.cell? ⟨w.heap.size, 2, none⟩ = some (i64 m0) := keepc E1 (new_cell _ _ _ 2)
      clear E1
      refine MixA.hop ⟨#[undef, undef, undef, undef, undef, undef, undef, undef, undef, undef, (.pointer (some ⟨w.heap.size, 1, none⟩)), undef], []⟩ (by intro cs b e; cases e) rfl (show 11 < 12 by decide) ?_ ?_
      · intro x hx
        simp [Op.operands] at hx
        rcases hx with rfl
        · exact (hf.pure (j := 3) (by decide) rfl).trans rfl
      go_wp2_with fail
      first | exact ⟨below_size, rfl⟩ | exact ⟨_, rfl, below_size, rfl⟩
    · intro a1 w1 hf
      obtain ⟨R, hR, _⟩ := hf.facts
      have hv11 : MixA.val a1 11 = .int .i64 a := (hR 4 (by decide)).1
      clear hR
      refine MixA.hop ⟨#[undef, undef, undef, undef, undef, undef, undef, undef, undef, undef, undef, (.int .i64 a), undef], []⟩ (by intro cs b e; cases e) rfl (show 12 < 13 by decide) ?_ ?_
      · intro x hx
        simp [Op.operands] at hx
        rcases hx with rfl
        · exact hv11.trans rfl
      go_wp2_with fail
      first | exact ⟨below_size.alloc (Nat.le_refl _) _, w1.heap.size, rfl, Nat.le_refl _, by simp, Blk.new w1 _ _⟩ | exact ⟨_, rfl, below_size.alloc (Nat.le_refl _) _, w1.heap.size, rfl, Nat.le_refl _, by simp, Blk.new w1 _ _⟩
    · intro a1 w1 hf
      refine MixA.hop ⟨#[undef, (.pointer (some ⟨w.heap.size, 0, none⟩)), undef, undef, undef, undef, undef, undef, undef, undef, undef, undef, undef, undef], []⟩ (by intro cs b e; cases e) rfl (show 13 < 14 by decide) ?_ ?_
      · intro x hx
        simp [Op.operands] at hx
        rcases hx with rfl
        · exact (hf.was (t := 1) (by decide) rfl).trans rfl
      go_wp2_with fail
      first | exact ⟨below_size, rfl⟩ | exact ⟨_, rfl, below_size, rfl⟩
    · intro a1 w1 hf
      have E1 := EW w1 hf.below
      have hc1 : w1.cell? ⟨w.heap.size, 1, none⟩ = some (i64 a) := keepc E1 (new_cell _ _ _ 1)
      have hc2 : w1.cell? ⟨w.heap.size, 2, none⟩ = some (i64 m0) := keepc E1 (new_cell _ _ _ 2)
      clear E1
      refine MixA.hop ⟨#[undef, undef, undef, undef, undef, undef, undef, undef, undef, undef, undef, undef, undef, (.pointer (some ⟨w.heap.size, 2, none⟩)), undef], []⟩ (by intro cs b e; cases e) rfl (show 14 < 15 by decide) ?_ ?_
      · intro x hx
        simp [Op.operands] at hx
        rcases hx with rfl
        · exact (hf.pure (j := 6) (by decide) rfl).trans rfl
      go_wp2_with fail
      first | exact ⟨below_size, rfl⟩ | exact ⟨_, rfl, below_size, rfl⟩
    · intro a1 w1 hf
      obtain ⟨R, hR, _⟩ := hf.facts
      obtain ⟨g12, hv12, _, h12l, h12⟩ : ∃ g', MixA.val a1 12 = .slice (some ⟨g', 0, none⟩) 1 1 ∧ (R 5).1 ≤ g' ∧ g' < (R 5).2 ∧ Blk w1 g' 2 #[.int .i64 a] := (hR 5 (by decide)).1
      have hv14 : MixA.val a1 14 = .int .i64 m0 := (hR 7 (by decide)).1
      have HB12 := Lib.hid h12
      clear hR h12
      refine MixA.hop ⟨#[undef, undef, undef, undef, undef, undef, undef, undef, undef, undef, undef, undef, (.slice (some ⟨g12, 0, none⟩) 1 1), undef, (.int .i64 m0), undef], []⟩ (by intro cs b e; cases e) rfl (show 15 < 16 by decide) ?_ ?_
      · intro x hx
        simp [Op.operands, Call.operands] at hx
        rcases hx with rfl | rfl | rfl
        · rfl
        · exact hv12.trans rfl
        · exact hv14.trans rfl
      go_wp2_with fail
      refine (repeatI_c ⟨g12, 0, none⟩ 1 a m0 _ (by exact HB12.out.cell 0) (by exact HB12.out.lt) (by omega)).mono ?_
      rintro e w2 ⟨g', rfl, hw2, hb2⟩
      have W2 := Lib.hid hw2; have B2 := Lib.hid hb2
      clear hw2 hb2
      go_wp2_with fail
      first | exact ⟨B2.out, _, m0, rfl, W2.out⟩ | exact ⟨_, rfl, B2.out, _, m0, rfl, W2.out⟩
    · intro a1 w1 hf
      obtain ⟨R, hR, hd⟩ := hf.facts
      obtain ⟨g9, hv9, l9, r9, h9⟩ : ∃ g', MixA.val a1 9 = .slice (some ⟨g', 0, none⟩) 1 1 ∧ (R 2).1 ≤ g' ∧ g' < (R 2).2 ∧ Blk w1 g' 2 #[.int .i64 m0] := (hR 2 (by decide)).1
      obtain ⟨A15, c15, hv15, h15⟩ : ∃ A c, MixA.val a1 15 = .slice A m0 c ∧ Wr w1 (R 8).1 (R 8).2 A m0 ((List.replicate m0 a).map i64) := (hR 8 (by decide)).1
      have b9 := (hR 2 (by decide)).2
      obtain ⟨ad15, v15, rfl, _, _, hlt15, _, _, _⟩ := h15.at_ (k := 0) (by omega)
      have hcs := h15.rd
      rw [hf.act]
      have E1 := Lib.hid (below_of_drew hf.below)
      simp only [List.foldl_cons, List.foldl_nil, hv9, hv15]
      clear hv9 hv15 hf hR hd
      simp only [Act.put, List.setIfInBounds_toArray, List.set_cons_succ, List.set_cons_zero]
      have z1 := E1.out.size
      simp only [World.size_alloc] at z1
      refine wpo_app _ _ 29 2 (.int .i64 0) 1 8 (by rfl) Tryz.underlying29 info_i64 rfl (by omega) (w.heap.size + 1) (some ⟨g9, 0, none⟩) 1 1 [i64 m0] (by rfl) (h9.own (by have := b9.1; simp at this; omega)) ad15 m0 c15 ((List.replicate m0 a).map i64) (by rfl) (by omega) (by simp) (by obtain ⟨_, hq⟩ := hcs; obtain ⟨_, e, _, h⟩ := hq (by omega); injection e with e; subst e; exact h) (by intro u hu; obtain ⟨y, _, rfl⟩ := List.mem_map.1 hu; rfl) (by omega) (by omega) (by omega) ?_
      intro g' cap w2 own2 hb2 hk2 hg2 hz2
      have O2 := Lib.hid own2; have B2 := Lib.hid (show Below w.heap.size w w2 from (below_size.alloc (Nat.le_refl _) _).trans ((E1.out.trans (hb2.mono (by simp))).mono (by simp)))
      clear own2 hb2 hk2 hg2 hz2 h9 h15 hcs E1 EW
      go_wp2_with fail
      go_ret
      refine ⟨_, cap, rfl, ?_, B2.out⟩
      rw [HF.out]
      exact O2.out.wr.rdI
    -- behind the region
  have g3 : (k == 3) = false := by simpa using k3
  by_cases k4 : k = 4
  · subst k4
    have hf : folF (4, a, i) = [a - 1, a + 1] := rfl
    obtain rfl : 2 = m := by rw [← hm, hf]; rfl
    have HF := Lib.hid hf
    have v1 : IntKind.i64.wrap (a - 1) = a - 1 := IntWalk.i64_in _ (by omega)
    have v2 : IntKind.i64.wrap (a + 1) = a + 1 := IntWalk.i64_in _ (by omega)
    clear hm hf hx
    go_enter Tryz.func169, Tryz.ntmps169
    go_wp2_with fail
    go_ret
    have e := (Blk.new (w.alloc (.cells #[i64 4, i64 a, i64 i] 77)) 2 #[i64 (a - 1), i64 (a + 1)])
    rw [World.size_alloc] at e
    exact ⟨_, 2, rfl, by rw [HF.out]; exact (e.wr (Nat.le_refl _) (Nat.lt_succ_self _) rfl (by simp)).rdI, (below_size.alloc (Nat.le_refl _) _).alloc (by simp) _⟩
  have g4 : (k == 4) = false := by simpa using k4
  by_cases k5 : k = 5
  · subst k5
    have hf : folF (5, a, i) = [a + 1] := rfl
    obtain rfl : 1 = m := by rw [← hm, hf]; rfl
    have HF := Lib.hid hf
    have v2 : IntKind.i64.wrap (a + 1) = a + 1 := IntWalk.i64_in _ (by omega)
    clear hm hf hx
    go_enter Tryz.func169, Tryz.ntmps169
    go_wp2_with fail
    go_ret
    have e := (Blk.new (w.alloc (.cells #[i64 5, i64 a, i64 i] 77)) 2 #[i64 (a + 1)])
    rw [World.size_alloc] at e
    exact ⟨_, 1, rfl, by rw [HF.out]; exact (e.wr (Nat.le_refl _) (Nat.lt_succ_self _) rfl (by simp)).rdI, (below_size.alloc (Nat.le_refl _) _).alloc (by simp) _⟩
  have g5 : (k == 5) = false := by simpa using k5
  have hf : folF (k, a, i) = [] := by unfold folF; simp only; rw [if_neg k3, if_neg k4, if_neg k5]
  obtain rfl : 0 = m := by rw [← hm, hf]; rfl
  have HF := Lib.hid hf
  clear hm hf hx k3 k4 k5
  go_enter Tryz.func169, Tryz.ntmps169
  go_wp2_with fail
  go_ret
  exact ⟨none, 0, rfl, by rw [HF.out]; exact RdI.nil, below_size.alloc (Nat.le_refl _) _⟩
def endF : Option Nat → Int
  | none => -1
  | some z => z
def stepG (Y : Option Nat) (K : Nat → Option Nat) : Option Nat := match Y with
  | none => none
  | some p => (K p).map (p + ·)
theorem feGo_cons (g : List Nd3 → Int → Option Nat) (l : List Nd3) (a : Int) (q : List Int) : feGo g l (a :: q) = stepG (g l a) fun p => feGo g (l.drop p) q := by
  rw [feGo]; cases g l a <;> rfl
set_option maxHeartbeats 4000000 in
set_option maxRecDepth 100000 in
theorem funcEnd_c (A : Option Addr) (n cp : Nat) (f : List Nd3) (hn : n ≤ 1000000000) (N : Nat) : ∀ (k : Nat) (a : Int) (Z : Option Nat) (w : World), Rd3 w A n f → n - k ≤ N → k ≤ n → (feE N (f.drop k) a).map (k + ·) = Z →
    Calls Tryz.prog 168 #[.slice A n cp, .int .i64 k, .int .i64 a] w fun e w' => e = .returned (.int .i64 (endF Z)) ∧ Below w.heap.size w w' := by
  induction N with
  | zero =>
    intro k a Z w h hN hk hZ
    have HZ := Lib.hid (show none = Z by rw [← hZ]; rfl)
    clear hZ h
    have g0 : decide ((n : Int) ≤ (k : Int)) = true := decide_eq_true (by omega)
    go_enter Tryz.func168, Tryz.ntmps168
    go_wp2_with fail
    go_ret
    exact ⟨by rw [← HZ.out]; rfl, below_size⟩
  | succ N IH =>
    intro k a Z w h hN hk hZ
    have HL := Lib.hid h.len
    have H := Lib.hid h
    by_cases hkn : n ≤ k
    · have HZ := Lib.hid (show none = Z by rw [← hZ, List.drop_eq_nil_of_le (by rw [HL.out]; exact hkn)]; rfl)
      clear hZ h IH
      go_enter Tryz.func168, Tryz.ntmps168
      go_wp2_with fail
      go_ret
      exact ⟨by rw [← HZ.out]; rfl, below_size⟩
    obtain ⟨ad, x, rfl, hab, hx, hc0, hc1, hc2⟩ := h.at_ (k := k) (by omega)
    rw [drop_at hx, feE] at hZ
    have HC0 := Lib.hid (show w.cell? (ad.add (k * 3)) = some (i64 x.1) from hc0)
    have HC1 := Lib.hid (show w.cell? ⟨(ad.add (k * 3)).block, (ad.add (k * 3)).off + 1, none⟩ = some (i64 x.2.1) from hc1)
    have HC2 := Lib.hid (show w.cell? ⟨(ad.add (k * 3)).block, (ad.add (k * 3)).off + 2, none⟩ = some (i64 x.2.2) from hc2)
    have HIH := Lib.hid (show ∀ (k : Nat) (a : Int) (Z : Option Nat) (w : World), Rd3 w (some ad) n f → n - k ≤ N → k ≤ n → (feE N (f.drop k) a).map (k + ·) = Z →
      Calls Tryz.prog 168 #[.slice (some ad) n cp, .int .i64 k, .int .i64 a] w fun e w' => e = .returned (.int .i64 (endF Z)) ∧ Below w.heap.size w w' from IH)
    obtain ⟨q, hq⟩ : ∃ q, nodeF x = q := ⟨_, rfl⟩
    have HQ := Lib.hid hq
    clear IH h hx
    by_cases h0 : 0 ≤ a
    · by_cases h1 : x.2.1 = a
      · have g1 : (x.2.1 != a) = false := by simpa using h1
        cases q
        · have HZ := Lib.hid (show none = Z by rw [← hZ, if_pos (.inr hq)]; rfl)
          clear hZ hq h1
          go_enter Tryz.func168, Tryz.ntmps168
          go_wp2_with (first | (go_at_call 196; refine (validNode_c x false _ HQ.out).mono ?_; rintro e w1 ⟨rfl, hb1⟩))
          go_ret
          exact ⟨by rw [← HZ.out]; rfl, hb1⟩
        · obtain ⟨m, hm⟩ : ∃ m, (folF x).length = m := ⟨_, rfl⟩
          have HM := Lib.hid hm
          have hm5 : m ≤ 5 := by rw [← hm]; exact manyF_le x hq
          have HZ := Lib.hid (show (feGo (feE N) (f.drop (k + 1)) (folF x)).map (k + 1 + ·) = Z by
            rw [← hZ, if_neg (by rintro (h | h); · exact h.2 h1
                                 · rw [hq] at h; cases h)]
            rw [Option.map_map]; congr 1; funext u; simp only [Function.comp]; omega)
          clear hZ hq h1 hm
          go_enter Tryz.func168, Tryz.ntmps168
          go_wp2_with (first
            | (go_at_call 196; refine (validNode_c x true _ HQ.out).mono ?_; rintro e w1 ⟨rfl, hb1⟩; have B1 := Lib.hid hb1; have y0 := keepc hb1 HC0.out; have y1 := keepc hb1 HC1.out; have y2 := keepc hb1 HC2.out; clear hb1)
            | (go_at_call 169; refine (followers_c x _ HQ.out m HM.out).mono ?_; rintro e w2 ⟨A2, c2, rfl, hA2, hb2⟩; have RA := Lib.hid hA2; have B2 := Lib.hid (below_chain B1.out B1.out.size hb2); clear hA2 hb2))
          go_loopw [7, 47] (fun ev jv wr => ∃ j z : Nat, j ≤ m ∧ jv = .int .i64 j ∧ ev = .int .i64 z ∧ k + 1 ≤ z ∧ z ≤ n ∧ Hid ((feGo (feE N) (f.drop z) ((folF x).drop j)).map (z + ·) = Z) ∧ Below w2.heap.size w2 wr) (fun _ jv _ => m - (intOf jv).toNat)
          case atStart => exact ⟨0, k + 1, by omega, rfl, by go_num, by omega, by omega, HZ.out, below_size⟩
          case round =>
            obtain ⟨j, z, hj, rfl, rfl, hkz, hzn, hr, hb⟩ := hrel
            have HB := Lib.hid hb
            by_cases hlt : j < m
            · obtain ⟨pd, u, rfl, hab2, hu, hcu⟩ := (RdI.below RA.out hb).at_ hlt
              obtain ⟨Y, hY⟩ : ∃ Y, feE N (f.drop z) u = Y := ⟨_, rfl⟩
              have HS := Lib.hid (show (stepG Y fun p => feGo (feE N) ((f.drop z).drop p) ((folF x).drop (j + 1))).map (z + ·) = Z by rw [← hr.out, drop_at hu, feGo_cons, hY])
              have HY := Lib.hid (show (feE N (f.drop z) u).map (z + ·) = Y.map (z + ·) by rw [hY])
              have hyl : ∀ p, Y = some p → z + p ≤ n := fun p hp => by
                rw [hp] at hY
                obtain ⟨t, r, _, _, e3, e4⟩ := feE_tree _ _ _ _ hY
                have := congrArg List.length e4
                rw [List.length_drop, List.length_append, HL.out] at this
                omega
              clear hr hu hY hb
              cases Y with
              | none =>
                have HG := Lib.hid (show none = Z from HS.out)
                go_wp2_with (first | (go_at_call 168; refine (HIH.out z u _ _ (by exact Rd3.below H.out (below_chain B2.out B2.out.size HB.out)) (by omega) hzn HY.out).mono ?_; rintro e w4 ⟨rfl, hb4⟩; have B4 := Lib.hid (below_chain B2.out B2.out.size (HB.out.trans (hb4.mono HB.out.size))); clear hb4))
                go_ret
                exact ⟨by rw [← HG.out]; rfl, B4.out⟩
              | some p =>
                have hzp := hyl p rfl
                have HG := Lib.hid (show (feGo (feE N) (f.drop (z + p)) ((folF x).drop (j + 1))).map (z + p + ·) = Z by
                  rw [← HS.out]
                  simp only [stepG, Option.map_map, List.drop_drop]
                  congr 1; funext v; simp only [Function.comp]; omega)
                clear HS hyl
                go_wp2_with (first | (go_at_call 168; refine (HIH.out z u _ _ (by exact Rd3.below H.out (below_chain B2.out B2.out.size HB.out)) (by omega) hzn HY.out).mono ?_; rintro e w4 ⟨rfl, hb4⟩; have B4 := Lib.hid (HB.out.trans (hb4.mono HB.out.size)); rw [show endF (Option.map (z + ·) (some p)) = ((z + p : Nat) : Int) from rfl]; clear hb4))
                go_roundw
                case rel => exact ⟨j + 1, z + p, by omega, by go_num, rfl, by omega, hzp, HG.out, B4.out⟩
                case measure => simp [intOf]; omega
            · have HG := Lib.hid (show some z = Z by rw [← hr.out, show (folF x).drop j = [] from List.drop_eq_nil_of_le (by rw [HM.out]; omega), feGo]; rfl)
              clear hr hb
              go_wp2_with fail
              go_ret
              exact ⟨by rw [← HG.out]; rfl, below_chain B2.out B2.out.size HB.out⟩
      · have g1 : (x.2.1 != a) = true := by simpa using h1
        have HZ := Lib.hid (show none = Z by rw [← hZ, if_pos (.inl ⟨h0, h1⟩)]; rfl)
        clear hZ hq h1 HIH
        go_enter Tryz.func168, Tryz.ntmps168
        go_wp2_with fail
        go_ret
        exact ⟨by rw [← HZ.out]; rfl, below_size⟩
    · cases q
      · have HZ := Lib.hid (show none = Z by rw [← hZ, if_pos (.inr hq)]; rfl)
        clear hZ hq
        go_enter Tryz.func168, Tryz.ntmps168
        go_wp2_with (first | (go_at_call 196; refine (validNode_c x false _ HQ.out).mono ?_; rintro e w1 ⟨rfl, hb1⟩))
        go_ret
        exact ⟨by rw [← HZ.out]; rfl, hb1⟩
      · obtain ⟨m, hm⟩ : ∃ m, (folF x).length = m := ⟨_, rfl⟩
        have HM := Lib.hid hm
        have hm5 : m ≤ 5 := by rw [← hm]; exact manyF_le x hq
        have HZ := Lib.hid (show (feGo (feE N) (f.drop (k + 1)) (folF x)).map (k + 1 + ·) = Z by
          rw [← hZ, if_neg (by rintro (h | h); · exact h0 h.1
                               · rw [hq] at h; cases h)]
          rw [Option.map_map]; congr 1; funext u; simp only [Function.comp]; omega)
        clear hZ hq hm
        go_enter Tryz.func168, Tryz.ntmps168
        go_wp2_with (first
          | (go_at_call 196; refine (validNode_c x true _ HQ.out).mono ?_; rintro e w1 ⟨rfl, hb1⟩; have B1 := Lib.hid hb1; have y0 := keepc hb1 HC0.out; have y1 := keepc hb1 HC1.out; have y2 := keepc hb1 HC2.out; clear hb1)
          | (go_at_call 169; refine (followers_c x _ HQ.out m HM.out).mono ?_; rintro e w2 ⟨A2, c2, rfl, hA2, hb2⟩; have RA := Lib.hid hA2; have B2 := Lib.hid (below_chain B1.out B1.out.size hb2); clear hA2 hb2))
        go_loopw [7, 47] (fun ev jv wr => ∃ j z : Nat, j ≤ m ∧ jv = .int .i64 j ∧ ev = .int .i64 z ∧ k + 1 ≤ z ∧ z ≤ n ∧ Hid ((feGo (feE N) (f.drop z) ((folF x).drop j)).map (z + ·) = Z) ∧ Below w2.heap.size w2 wr) (fun _ jv _ => m - (intOf jv).toNat)
        case atStart => exact ⟨0, k + 1, by omega, rfl, by go_num, by omega, by omega, HZ.out, below_size⟩
        case round =>
          obtain ⟨j, z, hj, rfl, rfl, hkz, hzn, hr, hb⟩ := hrel
          have HB := Lib.hid hb
          by_cases hlt : j < m
          · obtain ⟨pd, u, rfl, hab2, hu, hcu⟩ := (RdI.below RA.out hb).at_ hlt
            obtain ⟨Y, hY⟩ : ∃ Y, feE N (f.drop z) u = Y := ⟨_, rfl⟩
            have HS := Lib.hid (show (stepG Y fun p => feGo (feE N) ((f.drop z).drop p) ((folF x).drop (j + 1))).map (z + ·) = Z by rw [← hr.out, drop_at hu, feGo_cons, hY])
            have HY := Lib.hid (show (feE N (f.drop z) u).map (z + ·) = Y.map (z + ·) by rw [hY])
            have hyl : ∀ p, Y = some p → z + p ≤ n := fun p hp => by
              rw [hp] at hY
              obtain ⟨t, r, _, _, e3, e4⟩ := feE_tree _ _ _ _ hY
              have := congrArg List.length e4
              rw [List.length_drop, List.length_append, HL.out] at this
              omega
            clear hr hu hY hb
            cases Y with
            | none =>
              have HG := Lib.hid (show none = Z from HS.out)
              go_wp2_with (first | (go_at_call 168; refine (HIH.out z u _ _ (by exact Rd3.below H.out (below_chain B2.out B2.out.size HB.out)) (by omega) hzn HY.out).mono ?_; rintro e w4 ⟨rfl, hb4⟩; have B4 := Lib.hid (below_chain B2.out B2.out.size (HB.out.trans (hb4.mono HB.out.size))); clear hb4))
              go_ret
              exact ⟨by rw [← HG.out]; rfl, B4.out⟩
            | some p =>
              have hzp := hyl p rfl
              have HG := Lib.hid (show (feGo (feE N) (f.drop (z + p)) ((folF x).drop (j + 1))).map (z + p + ·) = Z by
                rw [← HS.out]
                simp only [stepG, Option.map_map, List.drop_drop]
                congr 1; funext v; simp only [Function.comp]; omega)
              clear HS hyl
              go_wp2_with (first | (go_at_call 168; refine (HIH.out z u _ _ (by exact Rd3.below H.out (below_chain B2.out B2.out.size HB.out)) (by omega) hzn HY.out).mono ?_; rintro e w4 ⟨rfl, hb4⟩; have B4 := Lib.hid (HB.out.trans (hb4.mono HB.out.size)); rw [show endF (Option.map (z + ·) (some p)) = ((z + p : Nat) : Int) from rfl]; clear hb4))
              go_roundw
              case rel => exact ⟨j + 1, z + p, by omega, by go_num, rfl, by omega, hzp, HG.out, B4.out⟩
              case measure => simp [intOf]; omega
          · have HG := Lib.hid (show some z = Z by rw [← hr.out, show (folF x).drop j = [] from List.drop_eq_nil_of_le (by rw [HM.out]; omega), feGo]; rfl)
            clear hr hb
            go_wp2_with fail
            go_ret
            exact ⟨by rw [← HG.out]; rfl, below_chain B2.out B2.out.size HB.out⟩
theorem isFunc_c (A : Option Addr) (n cp : Nat) (f : List Nd3) (q : Bool) (w : World) (h : Rd3 w A n f) (hn : n ≤ 1000000000) (hq : decide (feE n f (-1) = some n) = q) :
    Calls Tryz.prog 127 #[.slice A n cp] w fun e w' => e = .returned (.bool q) ∧ Below w.heap.size w w' := by
  obtain ⟨Z, hZ⟩ : ∃ Z, feE n f (-1) = Z := ⟨_, rfl⟩
  have HC := Lib.hid (show ∀ ki ai : Int, ki = 0 → ai = -1 → Calls Tryz.prog 168 #[.slice A n cp, .int .i64 ki, .int .i64 ai] w fun e w' => e = .returned (.int .i64 (endF Z)) ∧ Below w.heap.size w w' from fun ki ai h1 h2 => by
    subst h1; subst h2
    exact funcEnd_c A n cp f hn n 0 (-1) Z w h (by omega) (by omega) (by rw [List.drop_zero, hZ]; cases Z <;> simp))
  have HQ := Lib.hid (show (endF Z == (n : Int)) = q by
    rw [← hq, hZ]
    cases Z with
    | none => simp [endF]
    | some z => simp only [endF, Option.some.injEq]
                by_cases h : z = n
                · simp [h]
                · simp [h]; omega)
  clear hq hZ h
  go_enter Tryz.func127, Tryz.ntmps127
  go_wp2_with (first | (go_at_call 168; refine (HC.out _ _ (by omega) (by omega)).mono ?_; rintro e w1 ⟨rfl, hb1⟩))
  go_ret
  exact ⟨by rw [← HQ.out]; rfl, hb1⟩
theorem sizeFunc_c (A : Option Addr) (n c : Nat) (w : World) (_hn : n ≤ 1000000000000) :
    Calls Tryz.prog 126 #[.slice A n c] w fun e w' => e = .returned (.int .i64 n) ∧ w = w' := by
  go_enter Tryz.func126, Tryz.ntmps126
  go_wp2
  go_ret
  exact ⟨rfl, rfl⟩
theorem validFunc_c (A : Option Addr) (n cp : Nat) (f : List Nd3) (q : Bool) (w : World) (h : Rd3 w A n f) (hn : n ≤ 1000000000) (hq : validF f = q) :
    Calls Tryz.prog 83 #[.slice A n cp] w fun e w' => e = .returned (.bool q) ∧ Below w.heap.size w w' := by
  have HL := Lib.hid h.len
  have H := Lib.hid h
  obtain ⟨b, hb⟩ : ∃ b, inB n 1 60 = b := ⟨_, rfl⟩
  have HQ := Lib.hid (show (b && decide (feE n f (-1) = some n)) = q by rw [← hq, validF, h.len, hb])
  clear h hq
  cases b
  · have HG := Lib.hid (show false = q from HQ.out)
    go_enter Tryz.func83, Tryz.ntmps83
    go_wp2_with (first | (go_at_call 126; refine (sizeFunc_c _ _ _ _ (by omega)).mono ?_; rintro e w' ⟨rfl, rfl⟩) | (go_at_call 24; refine (within_b _ _ _ _ hb _).mono ?_; rintro e w' ⟨rfl, rfl⟩))
    go_ret
    exact ⟨by rw [← HG.out]; rfl, below_size⟩
  · have HG := Lib.hid (show decide (feE n f (-1) = some n) = q from HQ.out)
    go_enter Tryz.func83, Tryz.ntmps83
    go_wp2_with (first | (go_at_call 126; refine (sizeFunc_c _ _ _ _ (by omega)).mono ?_; rintro e w' ⟨rfl, rfl⟩) | (go_at_call 24; refine (within_b _ _ _ _ hb _).mono ?_; rintro e w' ⟨rfl, rfl⟩) | (go_at_call 127; refine (isFunc_c _ _ _ f q _ H.out hn HG.out).mono ?_; rintro e w1 ⟨rfl, hb1⟩))
    go_ret
    exact ⟨rfl, hb1⟩
end Go.Proofs.YtebjpmmgdkepjaaGreatDoor
/-
  Reading functions: the program's reader in memory (take, need, digit).
-/
namespace Go.Proofs.YtebjpmmgdkepjaaGreatDoor
open Go.RowKit
open FTr

theorem bs_dataF (l : List UInt8) : (bs l).data.toList = l := by simp [bs]
end Go.Proofs.YtebjpmmgdkepjaaGreatDoor
/-
  Contracts of chapter 11 (recursive functions): the program's parts of a function.
-/
namespace Go.Proofs.YtebjpmmgdkepjaaGreatDoor
open Go.RowKit
open FTr

/-- the slice of a part -/
def ptV (ad : Addr) (cp a : Nat) (t : FTr) : Value := .slice (some (ad.add (a * 3))) (flat t).length (cp - a)
def ptVs (ad : Addr) (cp : Nat) : Nat → List FTr → List Value
  | _, [] => []
  | a, t :: ts => ptV ad cp a t :: ptVs ad cp (a + (flat t).length) ts
theorem ptVs_app (ad : Addr) (cp : Nat) : ∀ (a : Nat) (ts us : List FTr), ptVs ad cp a (ts ++ us) = ptVs ad cp a ts ++ ptVs ad cp (a + (flats ts).length) us
  | a, [], us => by simp [ptVs, flats_nil]
  | a, t :: ts, us => by rw [List.cons_append, ptVs, ptVs, ptVs_app, flats_cons, List.length_append, Nat.add_assoc]; rfl
theorem info_sFunc : (Tryz.prog.info? 45).map (fun i => (i.zero, i.size, i.bytes)) = some (some (.slice none 0 0), 1, 24) := by kernel_rfl
set_option maxHeartbeats 4000000 in
set_option maxRecDepth 100000 in
theorem partsAt_c (ad : Addr) (n cp : Nat) (f : List Nd3) (k : Nat) (x : Nd3) (ts : List FTr) (r : List Nd3) (m : Nat) (w : World) (h : Rd3 w (some ad) n f) (hn : n ≤ 1000000000) (hnc : n ≤ cp) (hf : f.drop k = flat (mk x ts) ++ r) (ho : okT (mk x ts) = true) (hmm : ts.length = m) :
    Calls Tryz.prog 128 #[.slice (some ad) n cp, .int .i64 k] w fun e w' => ∃ A c, e = .returned (.slice A m c) ∧ Own w' w.heap.size 45 1 A m c (ptVs ad cp (k + 1) ts) ∧ Below w.heap.size w w' := by
  have hL := h.len
  have hkl := congrArg List.length hf
  rw [List.length_drop, List.length_append, hL, flat_mk, List.length_cons] at hkl
  have hroot : f[k]? = some x := root_at hf
  obtain ⟨ad', x', e, hab, hx, hc0, hc1, hc2⟩ := h.at_ (k := k) (by omega)
  injection e with e; subst e
  rw [hroot] at hx
  injection hx with hx; subst hx
  have hO := okT_iff.1 ho
  have HQ := Lib.hid hO.node
  have HM := Lib.hid (show (folF x).length = m by rw [← hO.ars, List.length_map, hmm])
  have hm5 : m ≤ 5 := by rw [← HM.out]; exact manyF_le x hO.node
  have HK := Lib.hid hO.kids; have HT := Lib.hid hmm; have HF := Lib.hid hf
  have C0 := Lib.hid (show w.cell? (ad.add (k * 3)) = some (i64 x.1) from hc0)
  have c0' := keepa (.cells #[] 45) hc0; have c1' := keepa (.cells #[] 45) hc1; have c2' := keepa (.cells #[] 45) hc2
  have H := Lib.hid h
  have hkn : k < n := by omega
  clear h hmm ho hf hc0 hc1 hc2 hroot hO
  go_enter Tryz.func128, Tryz.ntmps128
  go_wp2_with (first | (go_at_call 169; refine (followers_c x _ HQ.out m HM.out).mono ?_; rintro e w2 ⟨A2, c2, rfl, hA2, hb2⟩; have B2 := Lib.hid ((below_size.alloc (Nat.le_refl _) _).trans (hb2.mono (by simp))); have O2 := Lib.hid (show Own w2 w.heap.size 45 1 (some ⟨w.heap.size, 0, none⟩) 0 0 [] from (Own.lit (Nat.le_refl _)).keep hb2); clear hA2 hb2))
  go_loopw [5, 6, 17] (fun ov av jv wr => ∃ (i : Nat) (B : Option Addr) (cc a : Nat), i ≤ m ∧ ov = .slice B i cc ∧ av = .int .i64 a ∧ a ≤ n ∧ Hid (a = k + 1 + (flats (ts.take i)).length) ∧ jv = .int .i64 i ∧ Hid (Own wr w.heap.size 45 1 B i cc (ptVs ad cp (k + 1) (ts.take i))) ∧ Below w.heap.size w wr) (fun _ _ jv _ => m - (intOf jv).toNat)
  case atStart => exact ⟨0, some ⟨w.heap.size, 0, none⟩, 0, k + 1, by omega, rfl, by go_num, by omega, by simp [Hid, flats_nil], rfl, O2.out, B2.out⟩
  case round =>
    obtain ⟨i, B, cc, a, hi, rfl, rfl, han, ha, rfl, hO, hb⟩ := hrel
    have EB := Lib.hid hb
    have hwz := hb.size
    by_cases hlt : i < m
    · obtain ⟨t, ht⟩ : ∃ t, ts[i]? = some t := ⟨_, List.getElem?_eq_getElem (by rw [HT.out]; exact hlt)⟩
      obtain ⟨r', hr'⟩ := part_at HF.out ht
      rw [← ha.out] at hr'
      have hlr := congrArg List.length hr'
      rw [List.length_drop, List.length_append, hL] at hlr
      have htp := flat_pos t
      have hE := tree_feE t n (-1) r' (HK.out t (List.mem_of_getElem? ht)) (.inl (by omega)) (by omega)
      obtain ⟨l, hl⟩ : ∃ l, (flat t).length = l := ⟨_, rfl⟩
      rw [hl] at hlr htp hE
      have HE := Lib.hid (show (feE n (f.drop a) (-1)).map (a + ·) = some (a + l) by rw [hr', hE]; rfl)
      have HFE := Lib.hid (show ∀ (ai : Int) (w : World), ai = -1 → Rd3 w (some ad) n f → Calls Tryz.prog 168 #[.slice (some ad) n cp, .int .i64 a, .int .i64 ai] w fun e w' => e = .returned (.int .i64 ((a + l : Nat) : Int)) ∧ Below w.heap.size w w' from fun ai w h1 h => by
        subst h1
        exact funcEnd_c (some ad) n cp f hn n a (-1) (some (a + l)) w h (by omega) (by omega) HE.out)
      have HP := Lib.hid (show ptVs ad cp (k + 1) (ts.take (i + 1)) = ptVs ad cp (k + 1) (ts.take i) ++ [.slice (some (ad.add (a * 3))) l (cp - a)] by
        rw [take_at ht, ptVs_app, ← ha.out, ← hl]; rfl)
      have HB2 := Lib.hid (show a + l = k + 1 + (flats (ts.take (i + 1))).length by
        rw [flats_take ht, List.length_append, hl, ha.out]; omega)
      clear ht hr' hE ha hb hl
      go_wp2_with (first | (go_at_call 168; refine (HFE.out _ _ (by omega) (Rd3.below H.out EB.out)).mono ?_; rintro e w4 ⟨rfl, hb4⟩; have E4 := Lib.hid (below_chain EB.out EB.out.size hb4); have O4 := Lib.hid (hO.out.keep hb4); have z4 := E4.out.size; clear hb4) | (at_builtin; refine wp_app1 (by rfl) _ _ 152 45 (.slice none 0 0) 24 (by rfl) Tryz.underlying152 info_sFunc rfl w.heap.size B i cc _ (by rfl) (by exact O4.out.alloc _) w4.heap.size (.slice (some (ad.add (a * 3))) l (cp - a)) (by rfl) (by first | exact new_cell _ _ _ 0 | (rw [show l = a + l - a by omega]; exact new_cell _ _ _ 0)) (by rfl) (by omega) (by omega) (by simp; omega) ?_; intro g' cap w3 own3 hb3 hk3 hg3 hz3; have O3 := Lib.hid own3; have E3 := Lib.hid ((E4.out.alloc z4 _).trans hb3); clear own3 hb3 hk3 hg3 hz3))
      go_roundw
      case rel => exact ⟨i + 1, some ⟨g', 0, none⟩, cap, a + l, by omega, rfl, rfl, by omega, HB2.out, by go_num, by unfold Hid; rw [HP.out]; exact O3.out, E3.out⟩
      case measure => simp [intOf]; omega
    · obtain rfl : i = m := by omega
      clear hb
      go_wp2_with fail
      go_ret
      have hO := hO.out
      rw [List.take_of_length_le (by rw [HT.out]; exact Nat.le_refl _)] at hO
      exact ⟨B, cc, rfl, hO, EB.out⟩
end Go.Proofs.YtebjpmmgdkepjaaGreatDoor
/-
  Contracts of chapter 11 (recursive functions): the program's text of a function.
-/
namespace Go.Proofs.YtebjpmmgdkepjaaGreatDoor
open Go.RowKit
open FTr

theorem flat_take3 {l : List Nd3} {k : Nat} : (l.flatMap enc3).take (k * 3) = (l.take k).flatMap enc3 := by
  induction l generalizing k with
  | nil => simp
  | cons x l ih =>
    cases k with
    | zero => simp
    | succ k => rw [List.flatMap_cons, List.take_succ_cons, List.flatMap_cons, ← ih, Nat.succ_mul]; rfl
theorem flat_drop3 {l : List Nd3} {k : Nat} : (l.flatMap enc3).drop (k * 3) = (l.drop k).flatMap enc3 := by
  induction l generalizing k with
  | nil => simp
  | cons x l ih =>
    cases k with
    | zero => simp
    | succ k => rw [List.flatMap_cons, List.drop_succ_cons, ← ih, Nat.succ_mul]; rfl
/-- a part of a list of nodes -/
theorem Rd3.part {w : World} {ad : Addr} {n : Nat} {c : List Nd3} (h : Rd3 w (some ad) n c) (k p : Nat) (hkp : k + p ≤ n) : Rd3 w (some (ad.add (k * 3))) p ((c.drop k).take p) := by
  have hl := h.len
  refine ⟨?_, fun hp => ?_⟩
  · rw [flatX_len enc3 3 enc3_len, List.length_take, List.length_drop, hl]; omega
  · obtain ⟨_, e, hb, hc⟩ := h.2 (by omega)
    injection e with e; subst e
    refine ⟨_, rfl, by rw [block_add]; exact hb, fun j v hj => ?_⟩
    rw [← flat_take3, ← flat_drop3, List.getElem?_take] at hj
    split at hj
    · rw [List.getElem?_drop] at hj
      rw [add_add]; exact hc _ v hj
    · cases hj
theorem ptVs_at {ad : Addr} {cp a i : Nat} {ts : List FTr} {t : FTr} (h : ts[i]? = some t) : (ptVs ad cp a ts)[i]? = some (ptV ad cp (a + (flats (ts.take i)).length) t) := by
  induction ts generalizing a i with
  | nil => cases h
  | cons u ts ih =>
    cases i with
    | zero => simp only [List.getElem?_cons_zero, Option.some.injEq] at h; subst h; simp [ptVs, flats_nil]
    | succ i =>
      rw [List.getElem?_cons_succ] at h
      rw [ptVs, List.getElem?_cons_succ, ih h, List.take_succ_cons, flats_cons, List.length_append, Nat.add_assoc]
/-- the texts as values -/
def txV (ts : List FTr) : List Value := ts.map fun t => .string (bs (textT t))
end Go.Proofs.YtebjpmmgdkepjaaGreatDoor
