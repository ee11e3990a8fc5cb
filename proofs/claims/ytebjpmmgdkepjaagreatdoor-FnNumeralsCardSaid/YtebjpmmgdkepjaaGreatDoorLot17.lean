/-
  Parts of the proof, one behind the other: contracts of the functions that the law reaches, and plain laws.
-/
import Derived.ArgAppend
import Derived.Test.YtebjpmmgdkepjaaGreatDoorLot07
import Derived.Test.YtebjpmmgdkepjaaGreatDoorLot09
import Derived.Test.YtebjpmmgdkepjaaGreatDoorLot12
import Derived.Test.YtebjpmmgdkepjaaGreatDoorLot14
import Derived.Test.YtebjpmmgdkepjaaGreatDoorLot16
/-
  Lists of terms in memory: literals, append of a list to a list. Nothing of the program but its types.
-/
namespace Go.Proofs.YtebjpmmgdkepjaaGreatDoor
open Go.RowKit

section
variable {w w' : World} {B : Nat} {e : TypeId} {m c : Nat} {A : Option Addr} {ps qs : List Tm}
/-- a list written out, of terms that are there -/
theorem LmS.lit {vs : Array Value} {k : Nat} (hv : vs.toList = ps.map Tm.hd) (hk : vs.size = k) (hk9 : k ≤ 100) (h : ∀ p ∈ ps, Rd2 w p.A p.t.length p.t) (hl : ∀ p ∈ ps, ∀ a, p.A = some a → 0 < p.t.length → B ≤ a.block) (hB : B ≤ w.heap.size) :
    LmS (w.alloc (.cells vs e)) B e (some ⟨w.heap.size, 0, none⟩) k k ps := by
  refine ⟨⟨by rw [← hv, Array.length_toList, hk, Nat.mul_one], .inr ⟨w.heap.size, k, vs, rfl, hB, heap_alloc_new w _, Nat.le_refl _, by simp [maxLen]; omega, by rw [hk, Nat.mul_one], by rw [Nat.mul_one, hv]; exact List.take_of_length_le (by rw [← hv, Array.length_toList, hk]; exact Nat.le_refl _)⟩⟩, fun p hp => (h p hp).alloc _, fun p hp ad a had ha hn => ?_, hl⟩
  injection had with had; subst had
  have := rd2_block (h p hp) ha hn
  show a.block ≠ w.heap.size
  omega
end
theorem tmVs {w : World} {ty : TypeId} {vs : Array Value} {ps : List Tm} {n : Nat} (hv : vs.toList = ps.map Tm.hd) (hn : ps.length = n) (h : ∀ p ∈ ps, Rd2 w p.A p.t.length p.t) : RdV (w.alloc (.cells vs ty)) 2 (some ⟨w.heap.size, 0, none⟩) n (ps.map Tm.it) :=
  rdVC (Blk.new w ty vs) (by rw [hv, List.map_map]; rfl) (by rw [List.length_map, hn]) fun i hi => by
    obtain ⟨p, hp, rfl⟩ := List.mem_map.1 hi
    exact ⟨(h p hp).alloc _, one_pairs p.t⟩
theorem tm1 {w : World} {ty : TypeId} {A : Option Addr} {n c : Nat} {t : LT} (h : Rd2 w A n t) : RdV (w.alloc (.cells #[.slice A n c] ty)) 2 (some ⟨w.heap.size, 0, none⟩) 1 (([⟨A, c, t⟩] : List Tm).map Tm.it) := by
  have hl := h.len
  subst hl
  exact tmVs rfl rfl fun p hp => by rw [List.mem_singleton] at hp; subst hp; exact h
theorem tm2 {w : World} {ty : TypeId} {A1 A2 : Option Addr} {n1 c1 n2 c2 : Nat} {t1 t2 : LT} (h1 : Rd2 w A1 n1 t1) (h2 : Rd2 w A2 n2 t2) : RdV (w.alloc (.cells #[.slice A1 n1 c1, .slice A2 n2 c2] ty)) 2 (some ⟨w.heap.size, 0, none⟩) 2 (([⟨A1, c1, t1⟩, ⟨A2, c2, t2⟩] : List Tm).map Tm.it) := by
  have hl := h1.len; have hl2 := h2.len
  subst hl hl2
  exact tmVs rfl rfl fun p hp => by
    simp only [List.mem_cons, List.not_mem_nil, or_false] at hp
    rcases hp with rfl | rfl
    · exact h1
    · exact h2
theorem tm4 {w : World} {ty : TypeId} {A1 A2 A3 A4 : Option Addr} {n1 c1 n2 c2 n3 c3 n4 c4 : Nat} {t1 t2 t3 t4 : LT} (h1 : Rd2 w A1 n1 t1) (h2 : Rd2 w A2 n2 t2) (h3 : Rd2 w A3 n3 t3) (h4 : Rd2 w A4 n4 t4) :
    RdV (w.alloc (.cells #[.slice A1 n1 c1, .slice A2 n2 c2, .slice A3 n3 c3, .slice A4 n4 c4] ty)) 2 (some ⟨w.heap.size, 0, none⟩) 4 (([⟨A1, c1, t1⟩, ⟨A2, c2, t2⟩, ⟨A3, c3, t3⟩, ⟨A4, c4, t4⟩] : List Tm).map Tm.it) := by
  have hl := h1.len; have hl2 := h2.len; have hl3 := h3.len; have hl4 := h4.len
  subst hl hl2 hl3 hl4
  exact tmVs rfl rfl fun p hp => by
    simp only [List.mem_cons, List.not_mem_nil, or_false] at hp
    rcases hp with rfl | rfl | rfl | rfl
    · exact h1
    · exact h2
    · exact h3
    · exact h4
theorem LmS.get {w : World} {B : Nat} {e : TypeId} {m c : Nat} {A : Option Addr} {ps : List Tm} {j : Nat} (h : LmS w B e A m c ps) (hj : j < m) : ∃ ad Aj cj T, A = some ad ∧ ps[j]? = some ⟨Aj, cj, T⟩ ∧ w.cell? (ad.add j) = some (.slice Aj T.length cj) ∧ Rd2 w Aj T.length T := by
  have hl := h.len
  obtain ⟨ad, t, e1, ht, hc, _, _⟩ := h.rdV.at_ hj
  rw [List.getElem?_map] at ht
  cases hp : ps[j]? with
  | none => rw [hp] at ht; cases ht
  | some p =>
    rw [hp] at ht; injection ht with ht; subst ht
    exact ⟨ad, p.A, p.c, p.t, e1, by cases p; rfl, hc, h.rd p (List.mem_of_getElem? hp)⟩
theorem LmS.above {w : World} {B : Nat} {e : TypeId} {m c g : Nat} {A : Option Addr} {ps : List Tm} (h : LmS w B e A m c ps) (hg : g < B) : ∀ q ∈ ps, ∀ ad a, (some ⟨g, 0, none⟩ : Option Addr) = some ad → q.A = some a → 0 < q.t.length → a.block ≠ ad.block := fun q hq ad a had ha hn => by
  injection had with had; subst had
  have := h.lo q hq a ha hn
  show a.block ≠ g
  omega
theorem LmS.under {w : World} {B : Nat} {e : TypeId} {m c g : Nat} {A : Option Addr} {ps : List Tm} (h : LmS w B e A m c ps) (hg : w.heap.size ≤ g) : ∀ q ∈ ps, ∀ ad a, (some ⟨g, 0, none⟩ : Option Addr) = some ad → q.A = some a → 0 < q.t.length → a.block ≠ ad.block := fun q hq ad a had ha hn => by
  injection had with had; subst had
  have := rd2_block (h.rd q hq) ha hn
  show a.block ≠ g
  omega
theorem Wr.from_ {w : World} {lo hi n k : Nat} {A : Option Addr} {vs : List Value} (h : Wr w lo hi A n vs) (hk : k ≤ lo) (hn : 0 < n) : ∀ a, A = some a → 0 < (1 : Nat) → k ≤ a.block := fun a ha _ => by
  obtain ⟨a', e', h1, _⟩ := h.2 hn
  rw [ha] at e'; injection e' with e'; subst e'
  omega
/-- two variables, written out -/
theorem LmS.lit1 {w : World} {B : Nat} {e : TypeId} {A1 : Option Addr} {c1 : Nat} {i1 : Int} (h1 : Rd2 w A1 1 (varLm i1)) (l1 : ∀ a, A1 = some a → 0 < (1 : Nat) → B ≤ a.block) (hB : B ≤ w.heap.size) :
    LmS (w.alloc (.cells #[.slice A1 1 c1] e)) B e (some ⟨w.heap.size, 0, none⟩) 1 1 [⟨A1, c1, varLm i1⟩] :=
  LmS.lit rfl rfl (by omega) (fun p hp => by rw [List.mem_singleton] at hp; subst hp; exact h1) (fun p hp => by rw [List.mem_singleton] at hp; subst hp; exact l1) hB
theorem LmS.lit2 {w : World} {B : Nat} {e : TypeId} {A1 A2 : Option Addr} {c1 c2 : Nat} {i1 i2 : Int} (h1 : Rd2 w A1 1 (varLm i1)) (h2 : Rd2 w A2 1 (varLm i2)) (l1 : ∀ a, A1 = some a → 0 < (1 : Nat) → B ≤ a.block) (l2 : ∀ a, A2 = some a → 0 < (1 : Nat) → B ≤ a.block) (hB : B ≤ w.heap.size) :
    LmS (w.alloc (.cells #[.slice A1 1 c1, .slice A2 1 c2] e)) B e (some ⟨w.heap.size, 0, none⟩) 2 2 [⟨A1, c1, varLm i1⟩, ⟨A2, c2, varLm i2⟩] :=
  LmS.lit rfl rfl (by omega) (fun p hp => by
    simp only [List.mem_cons, List.not_mem_nil, or_false] at hp
    rcases hp with rfl | rfl
    · exact h1
    · exact h2) (fun p hp => by
    simp only [List.mem_cons, List.not_mem_nil, or_false] at hp
    rcases hp with rfl | rfl
    · exact l1
    · exact l2) hB
/-- append of a list of terms to a list of terms -/
theorem wp_appTm {ops : Array Oper} {rest : List Oper} {o : Oper} {a : Act} {w : World} {Q : Exit → Act → World → Prop} (hgd : o.guard = none) (s x : Operand)
    (ho : o.op = .call { callee := .builtin .append, args := #[s, x], argTypes := #[32, 32] })
    (B : Nat) (A : Option Addr) (n c : Nat) (ps : List Tm) (hs : a.eval s = .slice A n c) (h0 : LmS w B 25 A n c ps)
    (B2 : Nat) (G : Option Addr) (m mc : Nat) (qs : List Tm) (hx : a.eval x = .slice G m mc) (h2 : LmS w B2 25 G m mc qs) (hqn : ∀ q ∈ qs, ∀ ad a, A = some ad → q.A = some a → 0 < q.t.length → a.block ≠ ad.block) (hBB : B ≤ B2) (hlen : n + m ≤ 100000) (hB : B ≤ w.heap.size)
    (h : ∀ A' cap w', LmS w' B 25 A' (n + m) cap (ps ++ qs) → Below B w w' →
      wpList Tryz.prog ops Q rest (a.put o.dst (.slice A' (n + m) cap)) w') : wpList Tryz.prog ops Q (o :: rest) a w := by
  by_cases hm0 : 0 < m
  · have hl := h2.own.len
    obtain ⟨_, hc⟩ := h2.own.wr.rd
    obtain ⟨ad, rfl, hab, hcs⟩ := hc hm0
    refine wp_app hgd s x 32 25 (.slice none 0 0) 1 24 ho Tryz.underlying32 info_sLam rfl (by omega) B A n c (ps.map Tm.hd) hs h0.own ad m mc (qs.map Tm.hd) hx hm0 hl hcs (by intro u hu; obtain ⟨y, _, rfl⟩ := List.mem_map.1 hu; rfl) (by omega) (by omega) hB ?_
    intro g' cap w2 own2 hb2 hk2 hg2 hz2
    exact h _ cap w2 (h0.join h2.rd (fun q hq a ha hn => Nat.le_trans hBB (h2.lo q hq a ha hn)) hqn (by rw [List.map_append]; exact own2) hk2 hg2 hz2) hb2
  · obtain rfl : m = 0 := by omega
    have hws : qs = [] := List.length_eq_zero_iff.1 h2.len
    subst hws
    refine wp_app0 hgd s x 32 25 (.slice none 0 0) 1 24 ho Tryz.underlying32 info_sLam A n c hs h0.own.cap G mc hx ?_
    exact h A c w (by rw [List.append_nil]; exact h0) ⟨rfl, rfl, rfl, Nat.le_refl _, fun _ _ => rfl⟩
/-- append of a list of terms to a list that has no room -/
theorem wpo_appTmF {o : Oper} {a : Act} {w : World} {K : Act → World → Prop} {Q : Exit → Act → World → Prop} (s x : Operand)
    (ho : o.op = .call { callee := .builtin .append, args := #[s, x], argTypes := #[32, 32] })
    (A : Option Addr) (n : Nat) (ps : List Tm) (hs : a.eval s = .slice A n n) (h0 : RdV w 2 A n (ps.map Tm.it)) (hn : 0 < n)
    (G : Option Addr) (m mc : Nat) (qs : List Tm) (hx : a.eval x = .slice G m mc) (h2 : RdV w 2 G m (qs.map Tm.it)) (hlen : n + m ≤ 100000)
    (h : ∀ A' cap w', RdV w' 2 A' (n + m) ((ps ++ qs).map Tm.it) → Below w.heap.size w w' → K (a.put o.dst (.slice A' (n + m) cap)) w') : o.wp Tryz.prog a w K Q := by
  obtain ⟨i, hi0, hi1⟩ := Option.map_eq_some_iff.1 info_sLam
  simp only [Prod.mk.injEq] at hi1
  obtain ⟨e1, e2, e3⟩ := hi1
  by_cases hm : 0 < m
  · obtain ⟨hl0, hc0⟩ := h0.head
    obtain ⟨b, rfl, _, hcs0⟩ := hc0 hn
    obtain ⟨hl2, hc2⟩ := h2.head
    obtain ⟨ad, rfl, _, hcs2⟩ := hc2 hm
    obtain ⟨v', w', hrun, r1, r2⟩ := run_append_arg_grows (P := Tryz.prog) w 32 o.type 25 i (.slice none 0 0) 1 24 Tryz.underlying32 hi0 e1 e2 e3 rfl (by omega) b n n ((ps.map Tm.it).map hdV) (by rw [hl0, Nat.mul_one]) hcs0 ad m mc ((qs.map Tm.it).map hdV) (by rw [hl2, Nat.mul_one]) hcs2 (by omega) (by unfold maxLen; omega) (by omega)
    have hb : Below w.heap.size w w' := ⟨r2.os, r2.tape, r2.output, r2.size, fun k hk => r2.block k hk (by simp)⟩
    obtain ⟨g', cap, hv⟩ : ∃ g' cap, v' = .slice (some ⟨g', 0, none⟩) (n + m) cap := by
      rcases r1.2 with ⟨_, h0⟩ | ⟨g', cap, _, hv, _⟩
      · omega
      · exact ⟨g', cap, hv⟩
    subst hv
    have own : Own w' w.heap.size 25 1 (some ⟨g', 0, none⟩) (n + m) cap ((ps.map Tm.it).map hdV ++ (qs.map Tm.it).map hdV) := r1
    have hall : ∀ t ∈ (ps ++ qs).map Tm.it, Rd w t.A (t.n * 2) t.vs ∧ ∀ u ∈ t.vs, u.oneCell' = true := fun t ht => by
      rw [List.map_append] at ht
      exact (List.mem_append.1 ht).elim (fun h1 => ⟨h0.each t h1, h0.one t h1⟩) (fun h1 => ⟨h2.each t h1, h2.one t h1⟩)
    unfold Oper.wp execOp
    simp only [ho, resolve, invoke, builtin, Sem.run_bind, Sem.run_pure, Result.andThen_ok, List.map_toArray, List.map_cons, List.map_nil, hs, hx, hrun]
    exact h _ _ _ ⟨by rw [List.map_append, List.map_append]; exact own.wr.rd, fun t ht => (hall t ht).1.below hb, fun t ht => (hall t ht).2⟩ hb
  · obtain rfl : m = 0 := by omega
    have hws : qs = [] := by have := h2.len; rw [List.length_map] at this; exact List.length_eq_zero_iff.1 this
    subst hws
    have hsrc : Src Tryz.prog i.size 32 (.slice G 0 mc) 0 [] w := by
      cases G with
      | none => exact Src.ofNil w Tryz.underlying32 mc
      | some ad => exact Src.ofSlice w Tryz.underlying32 ad 0 mc [] (by simp) (fun j u hj => by simp at hj) (fun u hu => by cases hu)
    have hrun := run_append_nothing (P := Tryz.prog) w 32 32 o.type 25 i Tryz.underlying32 hi0 A n n (Nat.le_refl _) (.slice G 0 mc) hsrc
    unfold Oper.wp execOp
    simp only [ho, resolve, invoke, builtin, Sem.run_bind, Sem.run_pure, Result.andThen_ok, List.map_toArray, List.map_cons, List.map_nil, hs, hx, hrun]
    exact h A n w (by rw [List.append_nil]; exact h0) below_size
theorem wp_appTmF {ops : Array Oper} {rest : List Oper} {o : Oper} {a : Act} {w : World} {Q : Exit → Act → World → Prop} (hgd : o.guard = none) (s x : Operand)
    (ho : o.op = .call { callee := .builtin .append, args := #[s, x], argTypes := #[32, 32] })
    (A : Option Addr) (n : Nat) (ps : List Tm) (hs : a.eval s = .slice A n n) (h0 : RdV w 2 A n (ps.map Tm.it)) (hn : 0 < n)
    (G : Option Addr) (m mc : Nat) (qs : List Tm) (hx : a.eval x = .slice G m mc) (h2 : RdV w 2 G m (qs.map Tm.it)) (hlen : n + m ≤ 100000)
    (h : ∀ A' cap w', RdV w' 2 A' (n + m) ((ps ++ qs).map Tm.it) → Below w.heap.size w w' → wpList Tryz.prog ops Q rest (a.put o.dst (.slice A' (n + m) cap)) w') : wpList Tryz.prog ops Q (o :: rest) a w :=
  wpList_plain hgd fun _ hK => wpo_appTmF s x ho A n ps hs h0 hn G m mc qs hx h2 hlen fun A' cap w' h1 h2 => hK _ _ (h A' cap w' h1 h2)
/-- facts of a drawn region: a term, a list of terms, a list of terms without room -/
def fTn (n : Nat) (T : LT) : MixA.Fact1 := fun _ v _ _ w => ∃ A c, v = .slice A n c ∧ Rd2 w A n T
theorem fTn_st (n : Nat) (T : LT) : MixA.Stab (fTn n T) := fun _ _ _ _ _ _ hb h => by obtain ⟨A, c, e, hw⟩ := h; exact ⟨A, c, e, hw.below hb⟩
def fLs (n : Nat) (L : List LT) : MixA.Fact1 := fun _ v _ _ w => ∃ (A : Option Addr) (c : Nat) (ps : List Tm), v = .slice A n c ∧ RdV w 2 A n (ps.map Tm.it) ∧ ps.map Tm.t = L
theorem fLs_st (n : Nat) (L : List LT) : MixA.Stab (fLs n L) := fun _ _ _ _ _ _ hb h => by obtain ⟨A, c, ps, e, hw, hm⟩ := h; exact ⟨A, c, ps, e, hw.below hb, hm⟩
def fLf (n : Nat) (L : List LT) : MixA.Fact1 := fun _ v _ _ w => ∃ (A : Option Addr) (ps : List Tm), v = .slice A n n ∧ RdV w 2 A n (ps.map Tm.it) ∧ ps.map Tm.t = L
theorem fLf_st (n : Nat) (L : List LT) : MixA.Stab (fLf n L) := fun _ _ _ _ _ _ hb h => by obtain ⟨A, ps, e, hw, hm⟩ := h; exact ⟨A, ps, e, hw.below hb, hm⟩
theorem l18Vars00_c (n : Nat) (w : World) (hn : n ≤ 10) : Calls Tryz.prog 121 #[.int .i64 0, .int .i64 n, .int .i64 0] w (LsOut (vsLm n 0 0) n w) := l18Vars_c 0 n 0 n w (by omega) (by omega) (by omega) (by omega)
theorem l18Vars02_c (n : Nat) (w : World) (hn : n ≤ 10) : Calls Tryz.prog 121 #[.int .i64 0, .int .i64 n, .int .i64 2] w (LsOut (vsLm n 0 2) n w) := l18Vars_c 0 n 2 n w (by omega) (by omega) (by omega) (by omega)
theorem l18Vars10_c (n : Nat) (w : World) (hn : n ≤ 10) (h1 : 1 ≤ n) : Calls Tryz.prog 121 #[.int .i64 1, .int .i64 n, .int .i64 0] w (LsOut (vsLm n 1 0) (n - 1) w) := l18Vars_c 1 n 0 (n - 1) w (by omega) (by omega) (by omega) (by omega)
theorem l18Vars13_c (n : Nat) (w : World) (hn : n ≤ 10) (h1 : 1 ≤ n) : Calls Tryz.prog 121 #[.int .i64 1, .int .i64 n, .int .i64 3] w (LsOut (vsLm n 1 3) (n - 1) w) := l18Vars_c 1 n 3 (n - 1) w (by omega) (by omega) (by omega) (by omega)
/-- an application whose term and length are named -/
theorem l12ApplyT_c (A : Option Addr) (n c : Nat) (t : LT) (G : Option Addr) (m mc N : Nat) (ps : List Tm) (T : LT) (w : World) (h : Rd2 w A n t) (hG : RdV w 2 G m (ps.map Tm.it)) (hm : m ≤ 11) (hT : appLm t (ps.map Tm.t) = T) (hN : T.length = N) (hb : N ≤ 100000) :
    Calls Tryz.prog 78 #[.slice A n c, .slice G m mc] w (TmOut T N w) := by
  subst hT
  have h1 := h.len
  have h2 := itLen hG
  rw [appLm_len, List.length_map, h1, h2] at hN
  exact l12Apply_c A n c t G m mc N ps w h hG (by omega) (by omega) (by omega) hN
theorem l18AbsT_c (n : Nat) (A : Option Addr) (m c : Nat) (t U : LT) (w : World) (h : Rd2 w A m t) (hU : absLm n t = U) (hn : n ≤ 1000) (hm : m ≤ 1000000) : Calls Tryz.prog 122 #[.int .i64 n, .slice A m c] w (TmOut U U.length w) := by
  subst hU
  rw [absLm_len, h.len]
  exact l18Abs_c n A m c t w h hn hm
theorem l18Abs1_c (A : Option Addr) (m c : Nat) (t U : LT) (w : World) (h : Rd2 w A m t) (hU : absLm 1 t = U) (hm : m ≤ 1000000) : Calls Tryz.prog 122 #[.int .i64 1, .slice A m c] w (TmOut U U.length w) := l18AbsT_c 1 A m c t U w h hU (by omega) hm
theorem l18Abs2_c (A : Option Addr) (m c : Nat) (t U : LT) (w : World) (h : Rd2 w A m t) (hU : absLm 2 t = U) (hm : m ≤ 1000000) : Calls Tryz.prog 122 #[.int .i64 2, .slice A m c] w (TmOut U U.length w) := l18AbsT_c 2 A m c t U w h hU (by omega) hm
theorem l18Abs3_c (A : Option Addr) (m c : Nat) (t U : LT) (w : World) (h : Rd2 w A m t) (hU : absLm 3 t = U) (hm : m ≤ 1000000) : Calls Tryz.prog 122 #[.int .i64 3, .slice A m c] w (TmOut U U.length w) := l18AbsT_c 3 A m c t U w h hU (by omega) hm
theorem l12Numeral0_c (w : World) : Calls Tryz.prog 76 #[.int .i64 0] w (TmOut (numLm 0) 3 w) := l12Numeral_c 0 w (by omega)
end Go.Proofs.YtebjpmmgdkepjaaGreatDoor
/-
  Lambda terms as combinator terms: the program's small functions.
-/
namespace Go.Proofs.YtebjpmmgdkepjaaGreatDoor
open Go.RowKit

/-- the application of a combinator term -/
def appCm (t : LT) (args : List LT) : LT := List.replicate args.length ((0 : Int), (0 : Int)) ++ (t ++ args.flatten)
theorem appCm_len (t : LT) (args : List LT) : (appCm t args).length = args.length + t.length + args.flatten.length := by
  rw [appCm, List.length_append, List.length_append, List.length_replicate]; omega
set_option maxHeartbeats 1000000 in
theorem indexComb_c (A : Option Addr) (n c : Nat) (xs : List (Int × Int)) (x : Int × Int) (q : Bool) (w : World) (h : Rd2 w A n xs) (hn : n ≤ 1000000000) (hq : decide (x ∈ xs) = q) :
    Calls Tryz.prog 145 #[.slice A n c, .agg #[.int .i64 x.1, .int .i64 x.2]] w fun e w' => ∃ z : Int, e = .returned (.int .i64 z) ∧ decide (z ≥ 0) = q ∧ Below w.heap.size w w' := by
  have HL := Lib.hid h.len
  have HQ := Lib.hid hq
  obtain ⟨a, b⟩ := x
  obtain ⟨w1, hw1⟩ : ∃ w1, w.alloc (.cells #[.int .i64 a, .int .i64 b] 100) = w1 := ⟨_, rfl⟩
  have E1 := Lib.hid (show Below w.heap.size w w1 by rw [← hw1]; exact below_size.alloc (Nat.le_refl _) _)
  have Z1 := Lib.hid (show Blk w1 w.heap.size 100 #[.int .i64 a, .int .i64 b] by rw [← hw1]; exact Blk.new _ _ _)
  have H := Lib.hid (h.below E1.out)
  clear h hq
  show Calls Tryz.prog 145 #[.slice A n c, .agg #[.int .i64 a, .int .i64 b]] w _
  go_enter Tryz.func145, Tryz.ntmps145
  go_wp2_with fail
  go_loopw [8] (fun iv wr => ∃ k : Nat, k ≤ n ∧ iv = .int .i64 k ∧ Hid (decide ((a, b) ∈ xs.drop k) = q) ∧ ∃ j, wr = w1.drewN j) (fun iv _ => n - (intOf iv).toNat)
  case atStart => exact ⟨0, by omega, rfl, HQ.out, 0, rfl⟩
  case round =>
    obtain ⟨k, hk, rfl, hr, j, rfl⟩ := hrel
    by_cases hlt : k < n
    · obtain ⟨ad, x, rfl, _, hx, hc0, hc1⟩ := H.out.at_ hlt
      have hc0 : w1.cell? (ad.add (k * 2)) = some (i64 x.1) := hc0
      have hc1 : w1.cell? ⟨(ad.add (k * 2)).block, (ad.add (k * 2)).off + 1, none⟩ = some (i64 x.2) := hc1
      have hd0 : w1.cell? ⟨w.heap.size, 0, none⟩ = some (i64 a) := Z1.out.cell 0
      have hd1 : w1.cell? ⟨w.heap.size, 0 + 1, none⟩ = some (i64 b) := Z1.out.cell 1
      have hd2 : w1.cell? ⟨w.heap.size, 1, none⟩ = some (i64 b) := Z1.out.cell 1
      obtain ⟨p, v⟩ := x
      have HS := Lib.hid (show decide ((a, b) ∈ (p, v) :: xs.drop (k + 1)) = q by rw [← hr.out, drop_at hx])
      simp only at hc0 hc1
      clear hx hr
      rcases pair_cases a b p v with ⟨_, rfl, rfl⟩ | ⟨hne, hne2⟩
      · have HG := Lib.hid (show true = q by rw [← HS.out]; simp)
        go_wp2_with fail
        go_quiet (fail)
        go_wp2_with fail
        go_ret
        exact ⟨(k : Int), rfl, by rw [← HG.out]; exact decide_eq_true (by omega), below_drewN (below_drewN E1.out _) _⟩
      · have HG := Lib.hid (show decide ((a, b) ∈ xs.drop (k + 1)) = q by
          rw [← HS.out]
          by_cases h9 : (a, b) ∈ xs.drop (k + 1)
          · rw [decide_eq_true h9, decide_eq_true (List.mem_cons_of_mem _ h9)]
          · rw [decide_eq_false h9, decide_eq_false (fun h => (List.mem_cons.1 h).elim hne h9)])
        rcases hne2 with g1 | ⟨rfl, g1⟩
        · go_wp2_with fail
          go_quiet (fail)
          go_wp2_with fail
          go_roundw
          case rel => exact ⟨k + 1, by omega, by go_num, HG.out, _, rfl⟩
          case measure => simp [intOf]; omega
        · go_wp2_with fail
          go_quiet (fail)
          go_wp2_with fail
          go_roundw
          case rel => exact ⟨k + 1, by omega, by go_num, HG.out, _, rfl⟩
          case measure => simp [intOf]; omega
    · have HG := Lib.hid (show false = q by rw [← hr.out, List.drop_eq_nil_of_le (by rw [HL.out]; omega)]; rfl)
      clear hr
      go_wp2_with fail
      go_ret
      exact ⟨-1, rfl, by rw [← HG.out]; rfl, below_drewN E1.out _⟩
set_option maxHeartbeats 1000000 in
theorem containsComb_c (A : Option Addr) (n c : Nat) (xs : List (Int × Int)) (x : Int × Int) (q : Bool) (w : World) (h : Rd2 w A n xs) (hn : n ≤ 1000000000) (hq : decide (x ∈ xs) = q) :
    Calls Tryz.prog 108 #[.slice A n c, .agg #[.int .i64 x.1, .int .i64 x.2]] w fun e w' => e = .returned (.bool q) ∧ Below w.heap.size w w' := by
  obtain ⟨a, b⟩ := x
  obtain ⟨w1, hw1⟩ : ∃ w1, w.alloc (.cells #[.int .i64 a, .int .i64 b] 100) = w1 := ⟨_, rfl⟩
  have E1 := Lib.hid (show Below w.heap.size w w1 by rw [← hw1]; exact below_size.alloc (Nat.le_refl _) _)
  have d0 : w1.cell? ⟨w.heap.size, 0, none⟩ = some (i64 a) := by rw [← hw1]; exact new_cell _ _ _ 0
  have d1 : w1.cell? ⟨w.heap.size, 1, none⟩ = some (i64 b) := by rw [← hw1]; exact new_cell _ _ _ 1
  have HC := Lib.hid (indexComb_c A n c xs (a, b) q w1 (h.below E1.out) hn hq)
  have hz := E1.out.size
  clear h hq
  show Calls Tryz.prog 108 #[.slice A n c, .agg #[.int .i64 a, .int .i64 b]] w _
  go_enter Tryz.func108, Tryz.ntmps108
  go_wp2_with fail
  refine HC.out.mono ?_
  rintro e w2 ⟨z, rfl, hz9, hb2⟩
  have HZ := Lib.hid hz9
  have E2 := Lib.hid (E1.out.trans (hb2.mono hz))
  clear hz9 hb2
  have g1 : decide (z ≥ 0) = q := HZ.out
  have g2 : decide (0 ≤ z) = q := HZ.out
  cases q
  · go_wp2_with fail
    go_ret
    exact ⟨rfl, E2.out⟩
  · go_wp2_with fail
    go_ret
    exact ⟨rfl, E2.out⟩
theorem atom_c (k : Int) (w : World) : Calls Tryz.prog 107 #[.int .i64 k] w (TmOut [(k, 0)] 1 w) := by
  go_enter Tryz.func107, Tryz.ntmps107
  go_wp2_with fail
  go_ret
  have O := Own.litT (w := w) (B := w.heap.size) (e := 100) (cs := #[.int .i64 k, .int .i64 0]) (xs := [(k, 0)]) (n := 1) (Nat.le_refl _) rfl rfl (by omega)
  exact ⟨_, 1, rfl, rfl, O.wrK, Nat.le_refl _, below_size.alloc (Nat.le_refl _) _⟩
theorem applyCombT_c (A : Option Addr) (n c : Nat) (t : LT) (G : Option Addr) (m mc N : Nat) (ps : List Tm) (T : LT) (w : World) (h : Rd2 w A n t) (hG : RdV w 2 G m (ps.map Tm.it)) (hm : m ≤ 11) (hT : appCm t (ps.map Tm.t) = T) (hN : T.length = N) (hb : N ≤ 900000) :
    Calls Tryz.prog 67 #[.slice A n c, .slice G m mc] w (TmOut T N w) := by
  subst hT
  have h1 := h.len
  have h2 := itLen hG
  rw [appCm_len, List.length_map, h1, h2] at hN
  refine (applyComb_c A n c t G m mc N (ps.map Tm.it) w h hG hm (by omega) (by rw [sumV_it]; omega) (by rw [sumV_it]; exact hN)).mono ?_
  rintro e w1 ⟨A1, c1, rfl, hw, hc, hb⟩
  refine ⟨A1, c1, rfl, by rw [appCm_len, List.length_map, h1, h2, hN], ?_, hc, hb⟩
  rw [flat_it] at hw
  rw [appCm, List.flatMap_append, List.flatMap_append, List.length_map, h2, ← List.append_assoc]
  exact hw
end Go.Proofs.YtebjpmmgdkepjaaGreatDoor
/-
  Lambda terms as combinator terms: the program's abstraction of a variable.
-/
namespace Go.Proofs.YtebjpmmgdkepjaaGreatDoor
open Go.RowKit

theorem addrZm (a : Addr) : a.add 0 = a := by simp [Addr.add]
theorem below_of_drewM {w w' : World} {m : Nat} (h : Below (w.drewN m).heap.size (w.drewN m) w') : Below w.heap.size w w' := ⟨h.os, h.tape, h.output, h.size, h.block⟩
theorem below_of_drewM1 {w w' : World} {k : Nat} (h : Below (w.drewN (k + 1)).heap.size (w.drewN (k + 1)) w') : Below (w.drewN k).heap.size (w.drewN k) w' := ⟨h.os, h.tape, h.output, h.size, h.block⟩
theorem absC_var {f : Nat} {k : Int} {c : LT} (h : c = [(4, k)]) : absC (f + 1) k c = [(3, 0)] := by rw [absC, if_pos h]
theorem absC_no {f : Nat} {k : Int} {c : LT} (h : c ≠ [(4, k)]) (h2 : ¬ (4, k) ∈ c) : absC (f + 1) k c = (0, 0) :: (2, 0) :: c := by rw [absC, if_neg h, if_pos h2]
theorem absC_eta {f : Nat} {k : Int} {a b : LT} (ha : Cw a) (h2 : (4, k) ∈ ((0, 0) :: (a ++ b) : LT)) (h3 : b = [(4, k)] ∧ ¬ (4, k) ∈ a) : absC (f + 1) k ((0, 0) :: (a ++ b)) = a := by
  have n2 : ¬ ¬ (4, k) ∈ ((0, 0) :: (a ++ b) : LT) := fun h => h h2
  rw [absC, if_neg (by intro e; injection e with e; cases e), if_neg n2, ha.take, ha.drop, if_pos h3]
theorem absC_app {f : Nat} {k : Int} {a b : LT} (ha : Cw a) (h2 : (4, k) ∈ ((0, 0) :: (a ++ b) : LT)) (h3 : ¬ (b = [(4, k)] ∧ ¬ (4, k) ∈ a)) : absC (f + 1) k ((0, 0) :: (a ++ b)) = (0, 0) :: (0, 0) :: (1, 0) :: (absC f k a ++ absC f k b) := by
  have n2 : ¬ ¬ (4, k) ∈ ((0, 0) :: (a ++ b) : LT) := fun h => h h2
  rw [absC, if_neg (by intro e; injection e with e; cases e), if_neg n2, ha.take, ha.drop, if_neg h3]
theorem absC_len {k : Int} {c : LT} (h : Cw c) : ∀ f, c.length ≤ f → (absC f k c).length ≤ 3 * c.length := by
  induction h with
  | @atom x hx =>
    intro f hf
    obtain ⟨f, rfl⟩ : ∃ g, f = g + 1 := ⟨f - 1, by simp at hf; omega⟩
    by_cases h1 : [x] = [(4, k)]
    · rw [absC_var h1]; simp
    · rw [absC_no h1 (fun h => h1 (by rw [List.mem_singleton] at h; rw [h]))]; simp
  | @app a b ha hb iha ihb =>
    intro f hf
    obtain ⟨f, rfl⟩ : ∃ g, f = g + 1 := ⟨f - 1, by simp at hf; omega⟩
    have hf' : a.length ≤ f ∧ b.length ≤ f := by simp at hf; omega
    have h1 := iha f hf'.1; have h2 := ihb f hf'.2
    by_cases hm : (4, k) ∈ ((0, 0) :: (a ++ b) : LT)
    · by_cases h3 : b = [(4, k)] ∧ ¬ (4, k) ∈ a
      · rw [absC_eta ha hm h3]; simp; omega
      · rw [absC_app ha hm h3]; simp; omega
    · rw [absC_no (by intro e; injection e with e; cases e) hm]; simp; omega
theorem appK (c : LT) : appCm [(2, 0)] [c] = (0, 0) :: (2, 0) :: c := by simp [appCm]
theorem appS (a b : LT) : appCm [(1, 0)] [a, b] = (0, 0) :: (0, 0) :: (1, 0) :: (a ++ b) := by simp [appCm, List.replicate]
theorem resE_mid {a b : LT} (ha : Cw a) : resE manyC ((0, 0) :: (a ++ b)) 1 1 = ((1 + a.length : Nat) : Int) := by
  have h := ha.end_ b 0
  rw [endP_zero] at h
  rw [resE, List.drop_succ_cons, List.drop_zero, h]
  rfl
set_option maxHeartbeats 8000000 in
set_option maxRecDepth 100000 in
theorem abstraction_c (k : Int) {c0 : LT} (h0 : Cw c0) : c0.length ≤ 400 → ∀ (f : Nat) (A : Option Addr) (n cp : Nat) (w : World), Rd2 w A n c0 → n ≤ cp → c0.length ≤ f →
    Calls Tryz.prog 66 #[.int .i64 k, .slice A n cp, .bool true] w (TmOut (absC f k c0) (absC f k c0).length w) := by
  induction h0 with
  | @atom x hx =>
    intro h4 f A n cp w h hcp hf
    obtain ⟨f, rfl⟩ : ∃ g, f = g + 1 := ⟨f - 1, by simp at hf; omega⟩
    have hn : 1 = n := h.len
    subst hn
    obtain ⟨ad, x', rfl, _, hx', hc0, hc1⟩ := h.at_ (k := 0) (by omega)
    rw [List.getElem?_cons_zero] at hx'; injection hx' with hx'; subst hx'
    rw [Nat.zero_mul, addrZm] at hc0 hc1
    obtain ⟨p, v⟩ := x
    simp only at hc0 hc1
    obtain ⟨w1, hw1⟩ : ∃ w1, w.alloc (.cells #[.int .i64 4, .int .i64 k] 100) = w1 := ⟨_, rfl⟩
    have E1 := Lib.hid (show Below w.heap.size w w1 by rw [← hw1]; exact below_size.alloc (Nat.le_refl _) _)
    have d0 : w1.cell? ⟨w.heap.size, 0, none⟩ = some (i64 4) := by rw [← hw1]; exact new_cell _ _ _ 0
    have d1 : w1.cell? ⟨w.heap.size, 1, none⟩ = some (i64 k) := by rw [← hw1]; exact new_cell _ _ _ 1
    have e0 : w1.cell? ad = some (i64 p) := keepc E1.out hc0
    have e1 : w1.cell? ⟨ad.block, ad.off + 1, none⟩ = some (i64 v) := keepc E1.out hc1
    have R1 := Lib.hid (h.below E1.out)
    have hz := E1.out.size
    clear hc0 hc1 h hx
    rcases pair_cases p v 4 k with ⟨_, rfl, rfl⟩ | ⟨hne, hne2⟩
    · have HT := Lib.hid (show absC (f + 1) v [(4, v)] = [(3, 0)] from absC_var rfl)
      rw [HT.out]
      go_enter Tryz.func66, Tryz.ntmps66
      go_wp2_with fail
      go_quiet (fail)
      go_wp2_with fail
      refine (atom_c 3 _).mono ?_
      rintro e w2 ⟨A2, c2, rfl, hl2, hw2, hc2, hb2⟩
      have B2 := Lib.hid (E1.out.trans ((below_of_drewM hb2).mono hz)); have W2 := Lib.hid (hw2.wider (lo' := w.heap.size) hz (Nat.le_refl _)); have C2 := Lib.hid hc2
      clear hl2 hw2 hc2 hb2
      go_wp2_with fail
      go_ret
      exact ⟨A2, c2, rfl, rfl, W2.out, C2.out, B2.out⟩
    · have hnm : ¬ (4, k) ∈ ([(p, v)] : LT) := fun h => hne (by rw [List.mem_singleton] at h; exact h.symm)
      obtain ⟨T, hT⟩ : ∃ T, absC (f + 1) k [(p, v)] = T := ⟨_, rfl⟩
      have HT := Lib.hid (show appCm [(2, 0)] [[(p, v)]] = T by rw [← hT, absC_no (fun e => hne (by injection e)) hnm, appK])
      have HNM := Lib.hid (decide_eq_false hnm)
      have hTl : T.length ≤ 10 := by rw [← HT.out, appK]; simp
      have hT2 : ∀ f', f' = f + 1 → absC f' k [(p, v)] = T := fun f' e => by rw [e, hT]
      rw [hT]
      clear hT hT2 hnm
      go_enter Tryz.func66, Tryz.ntmps66
      rcases hne2 with g1 | ⟨rfl, g1⟩
      · go_wp2_with fail
        go_quiet (fail)
        go_wp2_with fail
        refine (containsComb_c (some ad) (1) cp ([(p, v)]) (4, k) false _ (by exact R1.out.drewN _) (by omega) HNM.out).mono ?_
        rintro e w2 ⟨rfl, hb2⟩
        have B2 := Lib.hid (E1.out.trans ((by first | exact below_of_drewM hb2 | exact hb2 : Below w1.heap.size w1 w2).mono hz)); have R2 := Lib.hid (R1.out.below (by first | exact below_of_drewM hb2 | exact hb2)); have hz2 := B2.out.size
        clear hb2
        go_wp2_with fail
        refine (atom_c 2 _).mono ?_
        rintro e w3 ⟨A3, c3, rfl, hl3, hw3, hc3, hb3⟩
        have B3 := Lib.hid (B2.out.trans (hb3.mono hz2)); have W3 := Lib.hid (show Rd2 w3 A3 1 [(2, 0)] from hw3.rd); have R3 := Lib.hid (R2.out.below hb3); have hz3 := B3.out.size
        clear hl3 hw3 hc3 hb3
        have B3b := Lib.hid (B3.out.alloc hz3 (.cells #[.slice (some ad) (1) cp] 37))
        go_wp2_with fail
        refine (applyCombT_c A3 1 c3 [(2, 0)] (some ⟨w3.heap.size, 0, none⟩) 1 1 T.length [⟨some ad, cp, [(p, v)]⟩] T _ (W3.out.alloc _) (tm1 R3.out) (by omega) HT.out rfl (by omega)).mono ?_
        rintro e w4 ⟨A4, c4, rfl, hl4, hw4, hc4, hb4⟩
        have B4 := Lib.hid (B3b.out.trans (hb4.mono B3b.out.size)); have W4 := Lib.hid (hw4.wider (lo' := w.heap.size) B3b.out.size (Nat.le_refl _)); have C4 := Lib.hid hc4
        clear hl4 hw4 hc4 hb4
        go_wp2_with fail
        go_ret
        exact ⟨A4, c4, rfl, rfl, W4.out, C4.out, B4.out⟩
      · go_wp2_with fail
        go_quiet (fail)
        go_wp2_with fail
        refine (containsComb_c (some ad) (1) cp ([(4, v)]) (4, k) false _ (by exact R1.out.drewN _) (by omega) HNM.out).mono ?_
        rintro e w2 ⟨rfl, hb2⟩
        have B2 := Lib.hid (E1.out.trans ((by first | exact below_of_drewM hb2 | exact hb2 : Below w1.heap.size w1 w2).mono hz)); have R2 := Lib.hid (R1.out.below (by first | exact below_of_drewM hb2 | exact hb2)); have hz2 := B2.out.size
        clear hb2
        go_wp2_with fail
        refine (atom_c 2 _).mono ?_
        rintro e w3 ⟨A3, c3, rfl, hl3, hw3, hc3, hb3⟩
        have B3 := Lib.hid (B2.out.trans (hb3.mono hz2)); have W3 := Lib.hid (show Rd2 w3 A3 1 [(2, 0)] from hw3.rd); have R3 := Lib.hid (R2.out.below hb3); have hz3 := B3.out.size
        clear hl3 hw3 hc3 hb3
        have B3b := Lib.hid (B3.out.alloc hz3 (.cells #[.slice (some ad) (1) cp] 37))
        go_wp2_with fail
        refine (applyCombT_c A3 1 c3 [(2, 0)] (some ⟨w3.heap.size, 0, none⟩) 1 1 T.length [⟨some ad, cp, [(4, v)]⟩] T _ (W3.out.alloc _) (tm1 R3.out) (by omega) HT.out rfl (by omega)).mono ?_
        rintro e w4 ⟨A4, c4, rfl, hl4, hw4, hc4, hb4⟩
        have B4 := Lib.hid (B3b.out.trans (hb4.mono B3b.out.size)); have W4 := Lib.hid (hw4.wider (lo' := w.heap.size) B3b.out.size (Nat.le_refl _)); have C4 := Lib.hid hc4
        clear hl4 hw4 hc4 hb4
        go_wp2_with fail
        go_ret
        exact ⟨A4, c4, rfl, rfl, W4.out, C4.out, B4.out⟩
  | @app a b ha hb iha ihb =>
    intro h4 f A n cp w h hcp hf
    obtain ⟨f, rfl⟩ : ∃ g, f = g + 1 := ⟨f - 1, by simp at hf; omega⟩
    have hpa := ha.pos; have hpb := hb.pos
    have hn : a.length + b.length + 1 = n := by have := h.len; simp only [List.length_cons, List.length_append] at this; omega
    simp only [List.length_cons, List.length_append] at hf h4
    obtain ⟨ad, rfl, _⟩ := h.2 (by omega)
    obtain ⟨w1, hw1⟩ : ∃ w1, w.alloc (.cells #[.int .i64 4, .int .i64 k] 100) = w1 := ⟨_, rfl⟩
    have E1 := Lib.hid (show Below w.heap.size w w1 by rw [← hw1]; exact below_size.alloc (Nat.le_refl _) _)
    have d0 : w1.cell? ⟨w.heap.size, 0, none⟩ = some (i64 4) := by rw [← hw1]; exact new_cell _ _ _ 0
    have d1 : w1.cell? ⟨w.heap.size, 1, none⟩ = some (i64 k) := by rw [← hw1]; exact new_cell _ _ _ 1
    have D0 := Lib.hid d0; have D1 := Lib.hid d1
    have R1 := Lib.hid (h.below E1.out)
    have hz := E1.out.size
    have g0 : ((n : Int) == 1) = false := by rw [beq_eq_false_iff_ne]; omega
    obtain ⟨T, hT⟩ : ∃ T, absC (f + 1) k ((0, 0) :: (a ++ b)) = T := ⟨_, rfl⟩
    have hTl : T.length ≤ 1200 := by
      rw [← hT]
      have h9 := absC_len (k := k) (Cw.app ha hb) (f + 1) (by simp; omega)
      simp only [List.length_cons, List.length_append] at h9; omega
    rw [hT]
    have HTT := Lib.hid hT
    clear h hT
    by_cases hm : (4, k) ∈ ((0, 0) :: (a ++ b) : LT)
    · have HM := Lib.hid (decide_eq_true hm)
      go_enter Tryz.func66, Tryz.ntmps66
      go_wp2_with fail
      go_quiet (fail)
      go_wp2_with fail
      refine (containsComb_c (some ad) n cp _ (4, k) true _ (by exact R1.out.drewN _) (by omega) HM.out).mono ?_
      rintro e w2 ⟨rfl, hb2⟩
      have F2 := Lib.hid (show Below w1.heap.size w1 w2 by exact below_of_drewM hb2)
      have B2 := Lib.hid (E1.out.trans (F2.out.mono hz)); have R2 := Lib.hid (R1.out.below F2.out); have hz2 := B2.out.size
      have d0 : w2.cell? ⟨w.heap.size, 0, none⟩ = some (i64 4) := keepc F2.out D0.out
      have d1 : w2.cell? ⟨w.heap.size, 1, none⟩ = some (i64 k) := keepc F2.out D1.out
      clear hb2
      go_wp2_with fail
      obtain ⟨la, hla⟩ : ∃ la, a.length = la := ⟨_, rfl⟩
      obtain ⟨lb, hlb⟩ : ∃ lb, b.length = lb := ⟨_, rfl⟩
      obtain ⟨z, hzz⟩ : ∃ z, 1 + la = z := ⟨_, rfl⟩
      have HCE := Lib.hid (combEnd_c (some ad) n cp _ 1 (z : Int) w2 R2.out (by omega) (by omega) (by rw [resE_mid ha, hla, hzz]))
      have hz1 : 1 < z ∧ z < n := by omega
      have hcpz : z < cp := by omega
      go_wp2_with fail
      refine HCE.out.mono ?_
      rintro e w3 ⟨rfl, hb3⟩
      have F3 := Lib.hid (F2.out.trans (hb3.mono F2.out.size))
      have B3 := Lib.hid (E1.out.trans (F3.out.mono hz)); have R3 := Lib.hid (R1.out.below F3.out); have hz3 := B3.out.size
      have d0 : w3.cell? ⟨w.heap.size, 0, none⟩ = some (i64 4) := keepc F3.out D0.out
      have d1 : w3.cell? ⟨w.heap.size, 1, none⟩ = some (i64 k) := keepc F3.out D1.out
      clear hb3
      go_wp2_with fail
      go_quiet (fail)
      go_wp2_with fail
      have hza : z - 1 = la := by omega
      have hzb : n - z = lb := by omega
      have RA := Lib.hid (show Rd2 w3 (some ⟨ad.block, ad.off + 2, none⟩) (z - 1) a by
        have h9 := R3.out.part 1 la (by omega)
        rw [List.drop_succ_cons, List.drop_zero, List.take_left' hla] at h9
        rw [hza]
        have e9 : ad.add (1 * 2) = ⟨ad.block, ad.off + 2, none⟩ := by rw [Addr.add, if_neg (by omega)]
        rw [e9] at h9; exact h9)
      have RB := Lib.hid (show Rd2 w3 (some (ad.add (z * 2))) (n - z) b by
        have h9 := R3.out.part z lb (by omega)
        rw [← hzz, Nat.add_comm 1 la, List.drop_succ_cons, List.drop_left' hla, List.take_of_length_le (by rw [hlb]; exact Nat.le_refl _)] at h9
        rw [hzb, ← hzz, Nat.add_comm 1 la]; exact h9)
      obtain ⟨Ta, hTa⟩ : ∃ Ta, absC f k a = Ta := ⟨_, rfl⟩
      obtain ⟨Tb, hTb⟩ : ∃ Tb, absC f k b = Tb := ⟨_, rfl⟩
      have HIA := Lib.hid (fun (w' : World) (h : Rd2 w' (some ⟨ad.block, ad.off + 2, none⟩) (z - 1) a) => show Calls Tryz.prog 66 #[.int .i64 k, .slice (some ⟨ad.block, ad.off + 2, none⟩) (z - 1) (cp - 1), .bool true] w' (TmOut Ta Ta.length w') by rw [← hTa]; exact iha (by omega) f _ (z - 1) (cp - 1) w' h (by omega) (by omega))
      have HIB := Lib.hid (fun (w' : World) (h : Rd2 w' (some (ad.add (z * 2))) (n - z) b) => show Calls Tryz.prog 66 #[.int .i64 k, .slice (some (ad.add (z * 2))) (n - z) (cp - z), .bool true] w' (TmOut Tb Tb.length w') by rw [← hTb]; exact ihb (by omega) f _ (n - z) (cp - z) w' h (by omega) (by omega))
      have hTal : Ta.length ≤ 1200 := by rw [← hTa]; have := absC_len (k := k) ha f (by omega); omega
      have hTbl : Tb.length ≤ 1200 := by rw [← hTb]; have := absC_len (k := k) hb f (by omega); omega
      have HTA := Lib.hid hTa; have HTB := Lib.hid hTb
      have D0 := Lib.hid d0; have D1 := Lib.hid d1; have HM2 := Lib.hid hm
      clear iha ihb hTa hTb hza hm
      by_cases hb1 : lb = 1
      · obtain ⟨y, hy⟩ : ∃ y, b = [y] := List.length_eq_one_iff.1 (by rw [hlb]; exact hb1)
        obtain ⟨p, v⟩ := y
        have hnz : n - z = 1 := by omega
        obtain ⟨ad', x', e', _, hx', hc0, hc1⟩ := RB.out.at_ (k := 0) (by omega)
        injection e' with e'; subst e'
        rw [hy, List.getElem?_cons_zero] at hx'; injection hx' with hx'; subst hx'
        rw [Nat.zero_mul, addrZm] at hc0 hc1
        simp only at hc0 hc1
        have g1 : (((n - z : Nat) : Int) == 1) = true := by rw [beq_iff_eq]; omega
        have g1' : ((n : Int) - (z : Int) == 1) = true := by rw [beq_iff_eq]; omega
        have hnz1 : 0 < n - z := by omega
        rcases pair_cases p v 4 k with ⟨_, rfl, rfl⟩ | ⟨hne, hne2⟩
        · obtain ⟨qd, hqd⟩ : ∃ q, decide ((4, v) ∈ a) = q := ⟨_, rfl⟩
          have HQD := Lib.hid hqd
          have x0 := fun i => Ext.cell (show (w3.drewN i).cell? _ = _ from hc0); have x1 := fun i => Ext.cell (show (w3.drewN i).cell? _ = _ from hc1); have x2 := fun i => Ext.cell (show (w3.drewN i).cell? _ = _ from d0); have x3 := fun i => Ext.cell (show (w3.drewN i).cell? _ = _ from d1)
          cases qd with
          | true =>
            have HT := Lib.hid (show appCm [(1, 0)] [Ta, Tb] = T by
              rw [appS, ← HTT.out, absC_app ha HM2.out (fun h => h.2 (of_decide_eq_true hqd)), HTA.out, HTB.out])
            clear hy hzb hnz hb1 hqd
            refine Mix.wp_region_mix [0, 0, 0, 0, 0, 0, 0, 0, 0, 3, 3, 0, 0, 0, 0, 3, 1, 0, 0] (fun w' => ∃ x : Ext (w3.drewN _), w' = x.w) (by kernel_rfl) (by kernel_rfl) (InExt.drew _) ?_
            repeat (first | (refine Mix.wpMix_read (by rfl) ?_; go_big_quiet_step (fail); refine wpQuiet_nil ?_) | (refine Mix.wpMix_pure (by rfl) ?_; go_big_quiet_step (fail); refine wpQuiet_nil ?_))
            refine Mix.wpMix_chg (by rfl) (fun K hK => ?_)
            go_wp2_with fail
            refine (containsComb_c (some ⟨ad.block, ad.off + 2, none⟩) (z - 1) (cp - 1) a (4, v) true _ (by first | exact RA.out.drewN _ | exact RA.out) (by omega) HQD.out).mono ?_
            rintro e w4 ⟨rfl, hb4⟩
            have F4 := Lib.hid (show Below w3.heap.size w3 w4 from below_of_drewM hb4)
            have F4q := Lib.hid (below_of_drewM1 hb4)
            clear hb4
            go_wp2_with fail
            refine hK _ _ ⟨⟨_, F4q.out⟩, rfl⟩ ?_
            clear hK K
            repeat (first | (refine Mix.wpMix_read (by rfl) ?_; go_big_quiet_step (fail); refine wpQuiet_nil ?_) | (refine Mix.wpMix_pure (by rfl) ?_; go_big_quiet_step (fail); refine wpQuiet_nil ?_))
            (refine Mix.wpMix_nil ?_; try simp only [Exit.then])
            clear x0 x1 x2 x3
            go_wp2_with fail
            refine (atom_c 1 _).mono ?_
            rintro e w5 ⟨A5, c5, rfl, hl5, hw5, hc5, hb5⟩
            have F5 := Lib.hid (show Below w3.heap.size w3 w5 by first | exact below_of_drewM hb5 | exact F4.out.trans (hb5.mono F4.out.size)); have R5 := Lib.hid (show Rd2 w5 A5 1 [(1, 0)] from hw5.rd)
            clear hl5 hw5 hc5 hb5
            go_wp2_with fail
            refine (HIA.out w5 (RA.out.below F5.out)).mono ?_
            rintro e w6 ⟨A6, c6, rfl, hl6, hw6, hc6, hb6⟩
            have D6 := Lib.hid hb6; have F6 := Lib.hid (F5.out.trans (hb6.mono F5.out.size)); have R6 := Lib.hid (show Rd2 w6 A6 Ta.length Ta from hw6.rd)
            clear hl6 hw6 hc6 hb6
            go_wp2_with fail
            refine (HIB.out w6 (RB.out.below F6.out)).mono ?_
            rintro e w7 ⟨A7, c7, rfl, hl7, hw7, hc7, hb7⟩
            have D7 := Lib.hid hb7; have F7 := Lib.hid (F6.out.trans (hb7.mono F6.out.size)); have R7 := Lib.hid (show Rd2 w7 A7 Tb.length Tb from hw7.rd)
            clear hl7 hw7 hc7 hb7
            have F7b := Lib.hid (F7.out.alloc F7.out.size (.cells #[.slice A6 Ta.length c6, .slice A7 Tb.length c7] 37))
            go_wp2_with fail
            refine (applyCombT_c A5 1 c5 [(1, 0)] (some ⟨w7.heap.size, 0, none⟩) 2 2 T.length [⟨A6, c6, Ta⟩, ⟨A7, c7, Tb⟩] T _ (((R5.out.below D6.out).below D7.out).alloc _) (tm2 (R6.out.below D7.out) R7.out) (by omega) HT.out rfl (by omega)).mono ?_
            rintro e w8 ⟨A8, c8, rfl, hl8, hw8, hc8, hb8⟩
            have F8 := Lib.hid (F7b.out.trans (hb8.mono F7b.out.size)); have W8 := Lib.hid (hw8.wider (lo' := w.heap.size) (Nat.le_trans hz3 F7b.out.size) (Nat.le_refl _)); have C8 := Lib.hid hc8
            clear hl8 hw8 hc8 hb8
            go_wp2_with fail
            go_ret
            exact ⟨A8, c8, rfl, rfl, W8.out, C8.out, B3.out.trans (F8.out.mono hz3)⟩
          | false =>
            have HTa := Lib.hid (show a = T by rw [← HTT.out, absC_eta ha HM2.out ⟨hy, of_decide_eq_false hqd⟩])
            have hTz : T.length = z - 1 := by rw [← HTa.out]; omega
            have HTZ := Lib.hid hTz
            clear hy hzb hnz hb1 hqd hTz
            refine Mix.wp_region_mix [0, 0, 0, 0, 0, 0, 0, 0, 0, 3, 3, 0, 0, 0, 0, 3, 1, 0, 0] (fun w' => ∃ x : Ext (w3.drewN _), w' = x.w) (by kernel_rfl) (by kernel_rfl) (InExt.drew _) ?_
            repeat (first | (refine Mix.wpMix_read (by rfl) ?_; go_big_quiet_step (fail); refine wpQuiet_nil ?_) | (refine Mix.wpMix_pure (by rfl) ?_; go_big_quiet_step (fail); refine wpQuiet_nil ?_))
            refine Mix.wpMix_chg (by rfl) (fun K hK => ?_)
            go_wp2_with fail
            refine (containsComb_c (some ⟨ad.block, ad.off + 2, none⟩) (z - 1) (cp - 1) a (4, v) false _ (by first | exact RA.out.drewN _ | exact RA.out) (by omega) HQD.out).mono ?_
            rintro e w4 ⟨rfl, hb4⟩
            have F4 := Lib.hid (show Below w3.heap.size w3 w4 from below_of_drewM hb4)
            have F4q := Lib.hid (below_of_drewM1 hb4)
            clear hb4
            go_wp2_with fail
            refine hK _ _ ⟨⟨_, F4q.out⟩, rfl⟩ ?_
            clear hK K
            repeat (first | (refine Mix.wpMix_read (by rfl) ?_; go_big_quiet_step (fail); refine wpQuiet_nil ?_) | (refine Mix.wpMix_pure (by rfl) ?_; go_big_quiet_step (fail); refine wpQuiet_nil ?_))
            (refine Mix.wpMix_nil ?_; try simp only [Exit.then])
            clear x0 x1 x2 x3
            go_wp2_with fail
            refine (cloneComb_c ⟨ad.block, ad.off + 2, none⟩ (z - 1) (cp - 1) a _ (RA.out.below F4.out) (by omega)).mono ?_
            rintro e w5 ⟨A5, c5, rfl, hw5, hc5, hb5⟩
            have F5 := Lib.hid (F4.out.trans (hb5.mono F4.out.size)); have W5 := Lib.hid (hw5.wider (lo' := w.heap.size) (Nat.le_trans hz3 F4.out.size) (Nat.le_refl _)); have C5 := Lib.hid hc5
            clear hw5 hc5 hb5
            go_wp2_with fail
            go_ret
            rw [HTZ.out]
            exact ⟨A5, c5, rfl, HTZ.out, by rw [← HTa.out]; exact W5.out, C5.out, B3.out.trans (F5.out.mono hz3)⟩
        · have HT := Lib.hid (show appCm [(1, 0)] [Ta, Tb] = T by
            rw [appS, ← HTT.out, absC_app ha HM2.out (fun h => hne (by have h9 := h.1; rw [hy] at h9; injection h9)), HTA.out, HTB.out])
          clear hy hzb hnz hb1
          rcases hne2 with g2 | ⟨rfl, g2⟩
          · go_quiet (fail)
            go_wp2_with fail
            refine (atom_c 1 _).mono ?_
            rintro e w5 ⟨A5, c5, rfl, hl5, hw5, hc5, hb5⟩
            have F5 := Lib.hid (show Below w3.heap.size w3 w5 by first | exact below_of_drewM hb5 | exact F4.out.trans (hb5.mono F4.out.size)); have R5 := Lib.hid (show Rd2 w5 A5 1 [(1, 0)] from hw5.rd)
            clear hl5 hw5 hc5 hb5
            go_wp2_with fail
            refine (HIA.out w5 (RA.out.below F5.out)).mono ?_
            rintro e w6 ⟨A6, c6, rfl, hl6, hw6, hc6, hb6⟩
            have D6 := Lib.hid hb6; have F6 := Lib.hid (F5.out.trans (hb6.mono F5.out.size)); have R6 := Lib.hid (show Rd2 w6 A6 Ta.length Ta from hw6.rd)
            clear hl6 hw6 hc6 hb6
            go_wp2_with fail
            refine (HIB.out w6 (RB.out.below F6.out)).mono ?_
            rintro e w7 ⟨A7, c7, rfl, hl7, hw7, hc7, hb7⟩
            have D7 := Lib.hid hb7; have F7 := Lib.hid (F6.out.trans (hb7.mono F6.out.size)); have R7 := Lib.hid (show Rd2 w7 A7 Tb.length Tb from hw7.rd)
            clear hl7 hw7 hc7 hb7
            have F7b := Lib.hid (F7.out.alloc F7.out.size (.cells #[.slice A6 Ta.length c6, .slice A7 Tb.length c7] 37))
            go_wp2_with fail
            refine (applyCombT_c A5 1 c5 [(1, 0)] (some ⟨w7.heap.size, 0, none⟩) 2 2 T.length [⟨A6, c6, Ta⟩, ⟨A7, c7, Tb⟩] T _ (((R5.out.below D6.out).below D7.out).alloc _) (tm2 (R6.out.below D7.out) R7.out) (by omega) HT.out rfl (by omega)).mono ?_
            rintro e w8 ⟨A8, c8, rfl, hl8, hw8, hc8, hb8⟩
            have F8 := Lib.hid (F7b.out.trans (hb8.mono F7b.out.size)); have W8 := Lib.hid (hw8.wider (lo' := w.heap.size) (Nat.le_trans hz3 F7b.out.size) (Nat.le_refl _)); have C8 := Lib.hid hc8
            clear hl8 hw8 hc8 hb8
            go_wp2_with fail
            go_ret
            exact ⟨A8, c8, rfl, rfl, W8.out, C8.out, B3.out.trans (F8.out.mono hz3)⟩
          · go_quiet (fail)
            go_wp2_with fail
            refine (atom_c 1 _).mono ?_
            rintro e w5 ⟨A5, c5, rfl, hl5, hw5, hc5, hb5⟩
            have F5 := Lib.hid (show Below w3.heap.size w3 w5 by first | exact below_of_drewM hb5 | exact F4.out.trans (hb5.mono F4.out.size)); have R5 := Lib.hid (show Rd2 w5 A5 1 [(1, 0)] from hw5.rd)
            clear hl5 hw5 hc5 hb5
            go_wp2_with fail
            refine (HIA.out w5 (RA.out.below F5.out)).mono ?_
            rintro e w6 ⟨A6, c6, rfl, hl6, hw6, hc6, hb6⟩
            have D6 := Lib.hid hb6; have F6 := Lib.hid (F5.out.trans (hb6.mono F5.out.size)); have R6 := Lib.hid (show Rd2 w6 A6 Ta.length Ta from hw6.rd)
            clear hl6 hw6 hc6 hb6
            go_wp2_with fail
            refine (HIB.out w6 (RB.out.below F6.out)).mono ?_
            rintro e w7 ⟨A7, c7, rfl, hl7, hw7, hc7, hb7⟩
            have D7 := Lib.hid hb7; have F7 := Lib.hid (F6.out.trans (hb7.mono F6.out.size)); have R7 := Lib.hid (show Rd2 w7 A7 Tb.length Tb from hw7.rd)
            clear hl7 hw7 hc7 hb7
            have F7b := Lib.hid (F7.out.alloc F7.out.size (.cells #[.slice A6 Ta.length c6, .slice A7 Tb.length c7] 37))
            go_wp2_with fail
            refine (applyCombT_c A5 1 c5 [(1, 0)] (some ⟨w7.heap.size, 0, none⟩) 2 2 T.length [⟨A6, c6, Ta⟩, ⟨A7, c7, Tb⟩] T _ (((R5.out.below D6.out).below D7.out).alloc _) (tm2 (R6.out.below D7.out) R7.out) (by omega) HT.out rfl (by omega)).mono ?_
            rintro e w8 ⟨A8, c8, rfl, hl8, hw8, hc8, hb8⟩
            have F8 := Lib.hid (F7b.out.trans (hb8.mono F7b.out.size)); have W8 := Lib.hid (hw8.wider (lo' := w.heap.size) (Nat.le_trans hz3 F7b.out.size) (Nat.le_refl _)); have C8 := Lib.hid hc8
            clear hl8 hw8 hc8 hb8
            go_wp2_with fail
            go_ret
            exact ⟨A8, c8, rfl, rfl, W8.out, C8.out, B3.out.trans (F8.out.mono hz3)⟩
      · have g1 : (((n - z : Nat) : Int) == 1) = false := by rw [beq_eq_false_iff_ne]; omega
        have HT := Lib.hid (show appCm [(1, 0)] [Ta, Tb] = T by
          rw [appS, ← HTT.out, absC_app ha HM2.out (fun h => hb1 (by rw [← hlb, h.1]; rfl)), HTA.out, HTB.out])
        clear hzb
        go_quiet (fail)
        go_wp2_with fail
        refine (atom_c 1 _).mono ?_
        rintro e w5 ⟨A5, c5, rfl, hl5, hw5, hc5, hb5⟩
        have F5 := Lib.hid (show Below w3.heap.size w3 w5 by first | exact below_of_drewM hb5 | exact F4.out.trans (hb5.mono F4.out.size)); have R5 := Lib.hid (show Rd2 w5 A5 1 [(1, 0)] from hw5.rd)
        clear hl5 hw5 hc5 hb5
        go_wp2_with fail
        refine (HIA.out w5 (RA.out.below F5.out)).mono ?_
        rintro e w6 ⟨A6, c6, rfl, hl6, hw6, hc6, hb6⟩
        have D6 := Lib.hid hb6; have F6 := Lib.hid (F5.out.trans (hb6.mono F5.out.size)); have R6 := Lib.hid (show Rd2 w6 A6 Ta.length Ta from hw6.rd)
        clear hl6 hw6 hc6 hb6
        go_wp2_with fail
        refine (HIB.out w6 (RB.out.below F6.out)).mono ?_
        rintro e w7 ⟨A7, c7, rfl, hl7, hw7, hc7, hb7⟩
        have D7 := Lib.hid hb7; have F7 := Lib.hid (F6.out.trans (hb7.mono F6.out.size)); have R7 := Lib.hid (show Rd2 w7 A7 Tb.length Tb from hw7.rd)
        clear hl7 hw7 hc7 hb7
        have F7b := Lib.hid (F7.out.alloc F7.out.size (.cells #[.slice A6 Ta.length c6, .slice A7 Tb.length c7] 37))
        go_wp2_with fail
        refine (applyCombT_c A5 1 c5 [(1, 0)] (some ⟨w7.heap.size, 0, none⟩) 2 2 T.length [⟨A6, c6, Ta⟩, ⟨A7, c7, Tb⟩] T _ (((R5.out.below D6.out).below D7.out).alloc _) (tm2 (R6.out.below D7.out) R7.out) (by omega) HT.out rfl (by omega)).mono ?_
        rintro e w8 ⟨A8, c8, rfl, hl8, hw8, hc8, hb8⟩
        have F8 := Lib.hid (F7b.out.trans (hb8.mono F7b.out.size)); have W8 := Lib.hid (hw8.wider (lo' := w.heap.size) (Nat.le_trans hz3 F7b.out.size) (Nat.le_refl _)); have C8 := Lib.hid hc8
        clear hl8 hw8 hc8 hb8
        go_wp2_with fail
        go_ret
        exact ⟨A8, c8, rfl, rfl, W8.out, C8.out, B3.out.trans (F8.out.mono hz3)⟩
    · have HNM := Lib.hid (decide_eq_false hm)
      have HT := Lib.hid (show appCm [(2, 0)] [(0, 0) :: (a ++ b)] = T by rw [← HTT.out, absC_no (by intro e; injection e with e; cases e) hm, appK])
      go_enter Tryz.func66, Tryz.ntmps66
      go_wp2_with fail
      go_quiet (fail)
      go_wp2_with fail
      refine (containsComb_c (some ad) (n) cp ((0, 0) :: (a ++ b)) (4, k) false _ (by exact R1.out.drewN _) (by omega) HNM.out).mono ?_
      rintro e w2 ⟨rfl, hb2⟩
      have B2 := Lib.hid (E1.out.trans ((by first | exact below_of_drewM hb2 | exact hb2 : Below w1.heap.size w1 w2).mono hz)); have R2 := Lib.hid (R1.out.below (by first | exact below_of_drewM hb2 | exact hb2)); have hz2 := B2.out.size
      clear hb2
      go_wp2_with fail
      refine (atom_c 2 _).mono ?_
      rintro e w3 ⟨A3, c3, rfl, hl3, hw3, hc3, hb3⟩
      have B3 := Lib.hid (B2.out.trans (hb3.mono hz2)); have W3 := Lib.hid (show Rd2 w3 A3 1 [(2, 0)] from hw3.rd); have R3 := Lib.hid (R2.out.below hb3); have hz3 := B3.out.size
      clear hl3 hw3 hc3 hb3
      have B3b := Lib.hid (B3.out.alloc hz3 (.cells #[.slice (some ad) (n) cp] 37))
      go_wp2_with fail
      refine (applyCombT_c A3 1 c3 [(2, 0)] (some ⟨w3.heap.size, 0, none⟩) 1 1 T.length [⟨some ad, cp, (0, 0) :: (a ++ b)⟩] T _ (W3.out.alloc _) (tm1 R3.out) (by omega) HT.out rfl (by omega)).mono ?_
      rintro e w4 ⟨A4, c4, rfl, hl4, hw4, hc4, hb4⟩
      have B4 := Lib.hid (B3b.out.trans (hb4.mono B3b.out.size)); have W4 := Lib.hid (hw4.wider (lo' := w.heap.size) B3b.out.size (Nat.le_refl _)); have C4 := Lib.hid hc4
      clear hl4 hw4 hc4 hb4
      go_wp2_with fail
      go_ret
      exact ⟨A4, c4, rfl, rfl, W4.out, C4.out, B4.out⟩
end Go.Proofs.YtebjpmmgdkepjaaGreatDoor
