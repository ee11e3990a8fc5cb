/-
  Parts of the proof, one behind the other: contracts of the functions that the law reaches, and plain laws.
-/
import Derived.ArgAppend
import Derived.Test.YtebjpmmgdkepjaaGreatDoorLot10
import Derived.Test.YtebjpmmgdkepjaaGreatDoorLot16
import Derived.Test.YtebjpmmgdkepjaaGreatDoorLot19
import Derived.Test.YtebjpmmgdkepjaaGreatDoorLot25
import Derived.Test.YtebjpmmgdkepjaaGreatDoorLot27
import Derived.Test.YtebjpmmgdkepjaaGreatDoorLot28
/-
  Lists of terms in memory: literals, append of a list to a list. Nothing of the program but its types.
-/
namespace Go.Proofs.YtebjpmmgdkepjaaGreatDoor
open Go.RowKit

section
variable {w w' : World} {B : Nat} {e : TypeId} {m c : Nat} {A : Option Addr} {ps qs : List Tm}
/-- a list written out, of terms that are there -/
theorem LmS.lit {vs : Array Value} {k : Nat} (hv : vs.toList = ps.map Tm.hd) (hk : vs.size = k) (hk9 : k ≤ 100) (h : ∀ p ∈ ps, Rd2 w p.A p.t.length p.t) (hl : ∀ p ∈ ps, ∀ a, p.A = some a → 0 < p.t.length → B ≤ a.block) (hB : B ≤ w.heap.size) :
    LmS (w.alloc (.cells vs e)) B e (some ⟨w.heap.size, 0, none⟩) k k ps := by
  refine ⟨⟨by rw [← hv, Array.length_toList, hk, Nat.mul_one], .inr ⟨w.heap.size, k, vs, rfl, hB, heap_alloc_new w _, Nat.le_refl _, by simp [maxLen]; omega, by rw [hk, Nat.mul_one], by rw [Nat.mul_one, hv]; exact List.take_of_length_le (by rw [← hv, Array.length_toList, hk]; exact Nat.le_refl _)⟩⟩, fun p hp => (h p hp).alloc _, fun p hp ad a had ha hn => ?_, hl⟩
  injection had with had; subst had
  have := rd2_block (h p hp) ha hn
  show a.block ≠ w.heap.size
  omega
end
theorem tmVs {w : World} {ty : TypeId} {vs : Array Value} {ps : List Tm} {n : Nat} (hv : vs.toList = ps.map Tm.hd) (hn : ps.length = n) (h : ∀ p ∈ ps, Rd2 w p.A p.t.length p.t) : RdV (w.alloc (.cells vs ty)) 2 (some ⟨w.heap.size, 0, none⟩) n (ps.map Tm.it) :=
  rdVC (Blk.new w ty vs) (by rw [hv, List.map_map]; rfl) (by rw [List.length_map, hn]) fun i hi => by
    obtain ⟨p, hp, rfl⟩ := List.mem_map.1 hi
    exact ⟨(h p hp).alloc _, one_pairs p.t⟩
theorem tm1 {w : World} {ty : TypeId} {A : Option Addr} {n c : Nat} {t : LT} (h : Rd2 w A n t) : RdV (w.alloc (.cells #[.slice A n c] ty)) 2 (some ⟨w.heap.size, 0, none⟩) 1 (([⟨A, c, t⟩] : List Tm).map Tm.it) := by
  have hl := h.len
  subst hl
  exact tmVs rfl rfl fun p hp => by rw [List.mem_singleton] at hp; subst hp; exact h
theorem tm2 {w : World} {ty : TypeId} {A1 A2 : Option Addr} {n1 c1 n2 c2 : Nat} {t1 t2 : LT} (h1 : Rd2 w A1 n1 t1) (h2 : Rd2 w A2 n2 t2) : RdV (w.alloc (.cells #[.slice A1 n1 c1, .slice A2 n2 c2] ty)) 2 (some ⟨w.heap.size, 0, none⟩) 2 (([⟨A1, c1, t1⟩, ⟨A2, c2, t2⟩] : List Tm).map Tm.it) := by
  have hl := h1.len; have hl2 := h2.len
  subst hl hl2
  exact tmVs rfl rfl fun p hp => by
    simp only [List.mem_cons, List.not_mem_nil, or_false] at hp
    rcases hp with rfl | rfl
    · exact h1
    · exact h2
theorem tm4 {w : World} {ty : TypeId} {A1 A2 A3 A4 : Option Addr} {n1 c1 n2 c2 n3 c3 n4 c4 : Nat} {t1 t2 t3 t4 : LT} (h1 : Rd2 w A1 n1 t1) (h2 : Rd2 w A2 n2 t2) (h3 : Rd2 w A3 n3 t3) (h4 : Rd2 w A4 n4 t4) :
    RdV (w.alloc (.cells #[.slice A1 n1 c1, .slice A2 n2 c2, .slice A3 n3 c3, .slice A4 n4 c4] ty)) 2 (some ⟨w.heap.size, 0, none⟩) 4 (([⟨A1, c1, t1⟩, ⟨A2, c2, t2⟩, ⟨A3, c3, t3⟩, ⟨A4, c4, t4⟩] : List Tm).map Tm.it) := by
  have hl := h1.len; have hl2 := h2.len; have hl3 := h3.len; have hl4 := h4.len
  subst hl hl2 hl3 hl4
  exact tmVs rfl rfl fun p hp => by
    simp only [List.mem_cons, List.not_mem_nil, or_false] at hp
    rcases hp with rfl | rfl | rfl | rfl
    · exact h1
    · exact h2
    · exact h3
    · exact h4
theorem LmS.get {w : World} {B : Nat} {e : TypeId} {m c : Nat} {A : Option Addr} {ps : List Tm} {j : Nat} (h : LmS w B e A m c ps) (hj : j < m) : ∃ ad Aj cj T, A = some ad ∧ ps[j]? = some ⟨Aj, cj, T⟩ ∧ w.cell? (ad.add j) = some (.slice Aj T.length cj) ∧ Rd2 w Aj T.length T := by
  have hl := h.len
  obtain ⟨ad, t, e1, ht, hc, _, _⟩ := h.rdV.at_ hj
  rw [List.getElem?_map] at ht
  cases hp : ps[j]? with
  | none => rw [hp] at ht; cases ht
  | some p =>
    rw [hp] at ht; injection ht with ht; subst ht
    exact ⟨ad, p.A, p.c, p.t, e1, by cases p; rfl, hc, h.rd p (List.mem_of_getElem? hp)⟩
theorem LmS.above {w : World} {B : Nat} {e : TypeId} {m c g : Nat} {A : Option Addr} {ps : List Tm} (h : LmS w B e A m c ps) (hg : g < B) : ∀ q ∈ ps, ∀ ad a, (some ⟨g, 0, none⟩ : Option Addr) = some ad → q.A = some a → 0 < q.t.length → a.block ≠ ad.block := fun q hq ad a had ha hn => by
  injection had with had; subst had
  have := h.lo q hq a ha hn
  show a.block ≠ g
  omega
theorem LmS.under {w : World} {B : Nat} {e : TypeId} {m c g : Nat} {A : Option Addr} {ps : List Tm} (h : LmS w B e A m c ps) (hg : w.heap.size ≤ g) : ∀ q ∈ ps, ∀ ad a, (some ⟨g, 0, none⟩ : Option Addr) = some ad → q.A = some a → 0 < q.t.length → a.block ≠ ad.block := fun q hq ad a had ha hn => by
  injection had with had; subst had
  have := rd2_block (h.rd q hq) ha hn
  show a.block ≠ g
  omega
theorem Wr.from_ {w : World} {lo hi n k : Nat} {A : Option Addr} {vs : List Value} (h : Wr w lo hi A n vs) (hk : k ≤ lo) (hn : 0 < n) : ∀ a, A = some a → 0 < (1 : Nat) → k ≤ a.block := fun a ha _ => by
  obtain ⟨a', e', h1, _⟩ := h.2 hn
  rw [ha] at e'; injection e' with e'; subst e'
  omega
/-- two variables, written out -/
theorem LmS.lit1 {w : World} {B : Nat} {e : TypeId} {A1 : Option Addr} {c1 : Nat} {i1 : Int} (h1 : Rd2 w A1 1 (varLm i1)) (l1 : ∀ a, A1 = some a → 0 < (1 : Nat) → B ≤ a.block) (hB : B ≤ w.heap.size) :
    LmS (w.alloc (.cells #[.slice A1 1 c1] e)) B e (some ⟨w.heap.size, 0, none⟩) 1 1 [⟨A1, c1, varLm i1⟩] :=
  LmS.lit rfl rfl (by omega) (fun p hp => by rw [List.mem_singleton] at hp; subst hp; exact h1) (fun p hp => by rw [List.mem_singleton] at hp; subst hp; exact l1) hB
theorem LmS.lit2 {w : World} {B : Nat} {e : TypeId} {A1 A2 : Option Addr} {c1 c2 : Nat} {i1 i2 : Int} (h1 : Rd2 w A1 1 (varLm i1)) (h2 : Rd2 w A2 1 (varLm i2)) (l1 : ∀ a, A1 = some a → 0 < (1 : Nat) → B ≤ a.block) (l2 : ∀ a, A2 = some a → 0 < (1 : Nat) → B ≤ a.block) (hB : B ≤ w.heap.size) :
    LmS (w.alloc (.cells #[.slice A1 1 c1, .slice A2 1 c2] e)) B e (some ⟨w.heap.size, 0, none⟩) 2 2 [⟨A1, c1, varLm i1⟩, ⟨A2, c2, varLm i2⟩] :=
  LmS.lit rfl rfl (by omega) (fun p hp => by
    simp only [List.mem_cons, List.not_mem_nil, or_false] at hp
    rcases hp with rfl | rfl
    · exact h1
    · exact h2) (fun p hp => by
    simp only [List.mem_cons, List.not_mem_nil, or_false] at hp
    rcases hp with rfl | rfl
    · exact l1
    · exact l2) hB
/-- append of a list of terms to a list of terms -/
theorem wp_appTm {ops : Array Oper} {rest : List Oper} {o : Oper} {a : Act} {w : World} {Q : Exit → Act → World → Prop} (hgd : o.guard = none) (s x : Operand)
    (ho : o.op = .call { callee := .builtin .append, args := #[s, x], argTypes := #[32, 32] })
    (B : Nat) (A : Option Addr) (n c : Nat) (ps : List Tm) (hs : a.eval s = .slice A n c) (h0 : LmS w B 25 A n c ps)
    (B2 : Nat) (G : Option Addr) (m mc : Nat) (qs : List Tm) (hx : a.eval x = .slice G m mc) (h2 : LmS w B2 25 G m mc qs) (hqn : ∀ q ∈ qs, ∀ ad a, A = some ad → q.A = some a → 0 < q.t.length → a.block ≠ ad.block) (hBB : B ≤ B2) (hlen : n + m ≤ 100000) (hB : B ≤ w.heap.size)
    (h : ∀ A' cap w', LmS w' B 25 A' (n + m) cap (ps ++ qs) → Below B w w' →
      wpList Tryz.prog ops Q rest (a.put o.dst (.slice A' (n + m) cap)) w') : wpList Tryz.prog ops Q (o :: rest) a w := by
  by_cases hm0 : 0 < m
  · have hl := h2.own.len
    obtain ⟨_, hc⟩ := h2.own.wr.rd
    obtain ⟨ad, rfl, hab, hcs⟩ := hc hm0
    refine wp_app hgd s x 32 25 (.slice none 0 0) 1 24 ho Tryz.underlying32 info_sLam rfl (by omega) B A n c (ps.map Tm.hd) hs h0.own ad m mc (qs.map Tm.hd) hx hm0 hl hcs (by intro u hu; obtain ⟨y, _, rfl⟩ := List.mem_map.1 hu; rfl) (by omega) (by omega) hB ?_
    intro g' cap w2 own2 hb2 hk2 hg2 hz2
    exact h _ cap w2 (h0.join h2.rd (fun q hq a ha hn => Nat.le_trans hBB (h2.lo q hq a ha hn)) hqn (by rw [List.map_append]; exact own2) hk2 hg2 hz2) hb2
  · obtain rfl : m = 0 := by omega
    have hws : qs = [] := List.length_eq_zero_iff.1 h2.len
    subst hws
    refine wp_app0 hgd s x 32 25 (.slice none 0 0) 1 24 ho Tryz.underlying32 info_sLam A n c hs h0.own.cap G mc hx ?_
    exact h A c w (by rw [List.append_nil]; exact h0) ⟨rfl, rfl, rfl, Nat.le_refl _, fun _ _ => rfl⟩
/-- append of a list of terms to a list that has no room -/
theorem wpo_appTmF {o : Oper} {a : Act} {w : World} {K : Act → World → Prop} {Q : Exit → Act → World → Prop} (s x : Operand)
    (ho : o.op = .call { callee := .builtin .append, args := #[s, x], argTypes := #[32, 32] })
    (A : Option Addr) (n : Nat) (ps : List Tm) (hs : a.eval s = .slice A n n) (h0 : RdV w 2 A n (ps.map Tm.it)) (hn : 0 < n)
    (G : Option Addr) (m mc : Nat) (qs : List Tm) (hx : a.eval x = .slice G m mc) (h2 : RdV w 2 G m (qs.map Tm.it)) (hlen : n + m ≤ 100000)
    (h : ∀ A' cap w', RdV w' 2 A' (n + m) ((ps ++ qs).map Tm.it) → Below w.heap.size w w' → K (a.put o.dst (.slice A' (n + m) cap)) w') : o.wp Tryz.prog a w K Q := by
  obtain ⟨i, hi0, hi1⟩ := Option.map_eq_some_iff.1 info_sLam
  simp only [Prod.mk.injEq] at hi1
  obtain ⟨e1, e2, e3⟩ := hi1
  by_cases hm : 0 < m
  · obtain ⟨hl0, hc0⟩ := h0.head
    obtain ⟨b, rfl, _, hcs0⟩ := hc0 hn
    obtain ⟨hl2, hc2⟩ := h2.head
    obtain ⟨ad, rfl, _, hcs2⟩ := hc2 hm
    obtain ⟨v', w', hrun, r1, r2⟩ := run_append_arg_grows (P := Tryz.prog) w 32 o.type 25 i (.slice none 0 0) 1 24 Tryz.underlying32 hi0 e1 e2 e3 rfl (by omega) b n n ((ps.map Tm.it).map hdV) (by rw [hl0, Nat.mul_one]) hcs0 ad m mc ((qs.map Tm.it).map hdV) (by rw [hl2, Nat.mul_one]) hcs2 (by omega) (by unfold maxLen; omega) (by omega)
    have hb : Below w.heap.size w w' := ⟨r2.os, r2.tape, r2.output, r2.size, fun k hk => r2.block k hk (by simp)⟩
    obtain ⟨g', cap, hv⟩ : ∃ g' cap, v' = .slice (some ⟨g', 0, none⟩) (n + m) cap := by
      rcases r1.2 with ⟨_, h0⟩ | ⟨g', cap, _, hv, _⟩
      · omega
      · exact ⟨g', cap, hv⟩
    subst hv
    have own : Own w' w.heap.size 25 1 (some ⟨g', 0, none⟩) (n + m) cap ((ps.map Tm.it).map hdV ++ (qs.map Tm.it).map hdV) := r1
    have hall : ∀ t ∈ (ps ++ qs).map Tm.it, Rd w t.A (t.n * 2) t.vs ∧ ∀ u ∈ t.vs, u.oneCell' = true := fun t ht => by
      rw [List.map_append] at ht
      exact (List.mem_append.1 ht).elim (fun h1 => ⟨h0.each t h1, h0.one t h1⟩) (fun h1 => ⟨h2.each t h1, h2.one t h1⟩)
    unfold Oper.wp execOp
    simp only [ho, resolve, invoke, builtin, Sem.run_bind, Sem.run_pure, Result.andThen_ok, List.map_toArray, List.map_cons, List.map_nil, hs, hx, hrun]
    exact h _ _ _ ⟨by rw [List.map_append, List.map_append]; exact own.wr.rd, fun t ht => (hall t ht).1.below hb, fun t ht => (hall t ht).2⟩ hb
  · obtain rfl : m = 0 := by omega
    have hws : qs = [] := by have := h2.len; rw [List.length_map] at this; exact List.length_eq_zero_iff.1 this
    subst hws
    have hsrc : Src Tryz.prog i.size 32 (.slice G 0 mc) 0 [] w := by
      cases G with
      | none => exact Src.ofNil w Tryz.underlying32 mc
      | some ad => exact Src.ofSlice w Tryz.underlying32 ad 0 mc [] (by simp) (fun j u hj => by simp at hj) (fun u hu => by cases hu)
    have hrun := run_append_nothing (P := Tryz.prog) w 32 32 o.type 25 i Tryz.underlying32 hi0 A n n (Nat.le_refl _) (.slice G 0 mc) hsrc
    unfold Oper.wp execOp
    simp only [ho, resolve, invoke, builtin, Sem.run_bind, Sem.run_pure, Result.andThen_ok, List.map_toArray, List.map_cons, List.map_nil, hs, hx, hrun]
    exact h A n w (by rw [List.append_nil]; exact h0) below_size
theorem wp_appTmF {ops : Array Oper} {rest : List Oper} {o : Oper} {a : Act} {w : World} {Q : Exit → Act → World → Prop} (hgd : o.guard = none) (s x : Operand)
    (ho : o.op = .call { callee := .builtin .append, args := #[s, x], argTypes := #[32, 32] })
    (A : Option Addr) (n : Nat) (ps : List Tm) (hs : a.eval s = .slice A n n) (h0 : RdV w 2 A n (ps.map Tm.it)) (hn : 0 < n)
    (G : Option Addr) (m mc : Nat) (qs : List Tm) (hx : a.eval x = .slice G m mc) (h2 : RdV w 2 G m (qs.map Tm.it)) (hlen : n + m ≤ 100000)
    (h : ∀ A' cap w', RdV w' 2 A' (n + m) ((ps ++ qs).map Tm.it) → Below w.heap.size w w' → wpList Tryz.prog ops Q rest (a.put o.dst (.slice A' (n + m) cap)) w') : wpList Tryz.prog ops Q (o :: rest) a w :=
  wpList_plain hgd fun _ hK => wpo_appTmF s x ho A n ps hs h0 hn G m mc qs hx h2 hlen fun A' cap w' h1 h2 => hK _ _ (h A' cap w' h1 h2)
/-- facts of a drawn region: a term, a list of terms, a list of terms without room -/
def fTn (n : Nat) (T : LT) : MixA.Fact1 := fun _ v _ _ w => ∃ A c, v = .slice A n c ∧ Rd2 w A n T
theorem fTn_st (n : Nat) (T : LT) : MixA.Stab (fTn n T) := fun _ _ _ _ _ _ hb h => by obtain ⟨A, c, e, hw⟩ := h; exact ⟨A, c, e, hw.below hb⟩
def fLs (n : Nat) (L : List LT) : MixA.Fact1 := fun _ v _ _ w => ∃ (A : Option Addr) (c : Nat) (ps : List Tm), v = .slice A n c ∧ RdV w 2 A n (ps.map Tm.it) ∧ ps.map Tm.t = L
theorem fLs_st (n : Nat) (L : List LT) : MixA.Stab (fLs n L) := fun _ _ _ _ _ _ hb h => by obtain ⟨A, c, ps, e, hw, hm⟩ := h; exact ⟨A, c, ps, e, hw.below hb, hm⟩
def fLf (n : Nat) (L : List LT) : MixA.Fact1 := fun _ v _ _ w => ∃ (A : Option Addr) (ps : List Tm), v = .slice A n n ∧ RdV w 2 A n (ps.map Tm.it) ∧ ps.map Tm.t = L
theorem fLf_st (n : Nat) (L : List LT) : MixA.Stab (fLf n L) := fun _ _ _ _ _ _ hb h => by obtain ⟨A, ps, e, hw, hm⟩ := h; exact ⟨A, ps, e, hw.below hb, hm⟩
theorem l18Vars00_c (n : Nat) (w : World) (hn : n ≤ 10) : Calls Tryz.prog 121 #[.int .i64 0, .int .i64 n, .int .i64 0] w (LsOut (vsLm n 0 0) n w) := l18Vars_c 0 n 0 n w (by omega) (by omega) (by omega) (by omega)
theorem l18Vars02_c (n : Nat) (w : World) (hn : n ≤ 10) : Calls Tryz.prog 121 #[.int .i64 0, .int .i64 n, .int .i64 2] w (LsOut (vsLm n 0 2) n w) := l18Vars_c 0 n 2 n w (by omega) (by omega) (by omega) (by omega)
theorem l18Vars10_c (n : Nat) (w : World) (hn : n ≤ 10) (h1 : 1 ≤ n) : Calls Tryz.prog 121 #[.int .i64 1, .int .i64 n, .int .i64 0] w (LsOut (vsLm n 1 0) (n - 1) w) := l18Vars_c 1 n 0 (n - 1) w (by omega) (by omega) (by omega) (by omega)
theorem l18Vars13_c (n : Nat) (w : World) (hn : n ≤ 10) (h1 : 1 ≤ n) : Calls Tryz.prog 121 #[.int .i64 1, .int .i64 n, .int .i64 3] w (LsOut (vsLm n 1 3) (n - 1) w) := l18Vars_c 1 n 3 (n - 1) w (by omega) (by omega) (by omega) (by omega)
/-- an application whose term and length are named -/
theorem l12ApplyT_c (A : Option Addr) (n c : Nat) (t : LT) (G : Option Addr) (m mc N : Nat) (ps : List Tm) (T : LT) (w : World) (h : Rd2 w A n t) (hG : RdV w 2 G m (ps.map Tm.it)) (hm : m ≤ 11) (hT : appLm t (ps.map Tm.t) = T) (hN : T.length = N) (hb : N ≤ 100000) :
    Calls Tryz.prog 78 #[.slice A n c, .slice G m mc] w (TmOut T N w) := by
  subst hT
  have h1 := h.len
  have h2 := itLen hG
  rw [appLm_len, List.length_map, h1, h2] at hN
  exact l12Apply_c A n c t G m mc N ps w h hG (by omega) (by omega) (by omega) hN
theorem l18AbsT_c (n : Nat) (A : Option Addr) (m c : Nat) (t U : LT) (w : World) (h : Rd2 w A m t) (hU : absLm n t = U) (hn : n ≤ 1000) (hm : m ≤ 1000000) : Calls Tryz.prog 122 #[.int .i64 n, .slice A m c] w (TmOut U U.length w) := by
  subst hU
  rw [absLm_len, h.len]
  exact l18Abs_c n A m c t w h hn hm
theorem l18Abs1_c (A : Option Addr) (m c : Nat) (t U : LT) (w : World) (h : Rd2 w A m t) (hU : absLm 1 t = U) (hm : m ≤ 1000000) : Calls Tryz.prog 122 #[.int .i64 1, .slice A m c] w (TmOut U U.length w) := l18AbsT_c 1 A m c t U w h hU (by omega) hm
theorem l18Abs2_c (A : Option Addr) (m c : Nat) (t U : LT) (w : World) (h : Rd2 w A m t) (hU : absLm 2 t = U) (hm : m ≤ 1000000) : Calls Tryz.prog 122 #[.int .i64 2, .slice A m c] w (TmOut U U.length w) := l18AbsT_c 2 A m c t U w h hU (by omega) hm
theorem l18Abs3_c (A : Option Addr) (m c : Nat) (t U : LT) (w : World) (h : Rd2 w A m t) (hU : absLm 3 t = U) (hm : m ≤ 1000000) : Calls Tryz.prog 122 #[.int .i64 3, .slice A m c] w (TmOut U U.length w) := l18AbsT_c 3 A m c t U w h hU (by omega) hm
theorem l12Numeral0_c (w : World) : Calls Tryz.prog 76 #[.int .i64 0] w (TmOut (numLm 0) 3 w) := l12Numeral_c 0 w (by omega)
end Go.Proofs.YtebjpmmgdkepjaaGreatDoor
/-
  Functions as terms: the program's reader of a term's text, second part: all elements.
-/
namespace Go.Proofs.YtebjpmmgdkepjaaGreatDoor
open Go.RowKit

theorem rdI_nil {f : Nat} {out : LT} : rdI f [] out = out := by cases f <;> rfl
theorem rdI_full {f : Nat} {c : UInt8} {s : List UInt8} {out : LT} (h : 400 < out.length) : rdI (f + 1) (c :: s) out = out := by rw [rdI, if_pos h]
theorem rdI_app {f : Nat} {c : UInt8} {s : List UInt8} {out : LT} (h : ¬ 400 < out.length) (hc : c = 40) : rdI (f + 1) (c :: s) out = rdI f s (out ++ [(2, 0)]) := by rw [rdI, if_neg h, if_pos hc]
theorem rdI_skip {f : Nat} {c : UInt8} {s : List UInt8} {out : LT} (h : ¬ 400 < out.length) (h1 : c ≠ 40) (hc : c = 32 ∨ c = 41) : rdI (f + 1) (c :: s) out = rdI f s out := by rw [rdI, if_neg h, if_neg h1, if_pos hc]
theorem rdI_abs {f : Nat} {c : UInt8} {s : List UInt8} {out : LT} (h : ¬ 400 < out.length) (h1 : c ≠ 40) (h2 : ¬ (c = 32 ∨ c = 41)) (hc : c = 94) : rdI (f + 1) (c :: s) out = rdI f s (out ++ [(1, 0)]) := by rw [rdI, if_neg h, if_neg h1, if_neg h2, if_pos hc]
theorem rdI_no {f : Nat} {c : UInt8} {s : List UInt8} {out : LT} (h : ¬ 400 < out.length) (h1 : c ≠ 40) (h2 : ¬ (c = 32 ∨ c = 41)) (h3 : c ≠ 94) (h4 : numD ((c :: s).take (dgN (c :: s))) = none) : rdI (f + 1) (c :: s) out = [] := by rw [rdI, if_neg h, if_neg h1, if_neg h2, if_neg h3, h4]
theorem rdI_num {f : Nat} {c : UInt8} {s : List UInt8} {out : LT} {n : Int} (h : ¬ 400 < out.length) (h1 : c ≠ 40) (h2 : ¬ (c = 32 ∨ c = 41)) (h3 : c ≠ 94) (h4 : numD ((c :: s).take (dgN (c :: s))) = some n) : rdI (f + 1) (c :: s) out = rdI f ((c :: s).drop (dgN (c :: s))) (out ++ [(0, n)]) := by rw [rdI, if_neg h, if_neg h1, if_neg h2, if_neg h3, h4]
/-- an element, and what is left of the text: refused, or one more -/
theorem rdI_el {f : Nat} {c : UInt8} {s : List UInt8} {out : LT} (h : ¬ 400 < out.length) (h1 : c ≠ 40) (h2 : ¬ (c = 32 ∨ c = 41)) :
    ((elI (c :: s)).2.2 = 0 ∧ rdI (f + 1) (c :: s) out = []) ∨ (1 ≤ (elI (c :: s)).2.2 ∧ (elI (c :: s)).2.2 ≤ (c :: s).length ∧ rdI (f + 1) (c :: s) out = rdI f ((c :: s).drop (elI (c :: s)).2.2) (out ++ [((elI (c :: s)).1, (elI (c :: s)).2.1)])) := by
  by_cases h3 : c = 94
  · refine .inr ?_
    rw [elI, if_pos (by rw [h3]; rfl), rdI_abs h h1 h2 h3]
    exact ⟨Nat.le_refl _, by simp, rfl⟩
  · rw [elI, if_neg (by simpa using h3)]
    cases hn : numD ((c :: s).take (dgN (c :: s))) with
    | none => exact .inl ⟨rfl, rdI_no h h1 h2 h3 hn⟩
    | some v =>
      refine .inr ⟨?_, dgN_le _, rdI_num h h1 h2 h3 hn⟩
      rcases Nat.eq_zero_or_pos (dgN (c :: s)) with h0 | h0
      · rw [h0, List.take_zero] at hn; cases hn
      · exact h0
set_option maxHeartbeats 4000000 in
set_option maxRecDepth 100000 in
theorem readTermLam_c (s : List UInt8) (R : LT) (l : Nat) (w : World) (hs : s.length ≤ 1048576) (hL : LibS w) (hR : rdI s.length s [] = R) (hl : R.length = l) :
    Calls Tryz.prog 95 #[.string (bs s), .agg #[.int .i64 2, .int .i64 0], .func (.func 96) #[] #[], .int .i64 400] w (TmOut R l w) := by
  have HR := Lib.hid hR; have HRL := Lib.hid hl
  obtain ⟨w1, hw1⟩ : ∃ w1, w.alloc (.cells #[.int .i64 2, .int .i64 0] 62) = w1 := ⟨_, rfl⟩
  have E1 := Lib.hid (show Below w.heap.size w w1 by rw [← hw1]; exact below_size.alloc (Nat.le_refl _) _)
  have Z1 := Lib.hid (show Blk w1 w.heap.size 62 #[.int .i64 2, .int .i64 0] by rw [← hw1]; exact Blk.new _ _ _)
  have HL := Lib.hid (hL.below E1.out)
  have hz1 := E1.out.size
  have hzl := Z1.out.lt
  clear hR hl hL
  go_enter Tryz.func95, Tryz.ntmps95
  go_wp2_with fail
  go_loopw [0, 9] (fun sv ov wr => ∃ (r : List UInt8) (p oc f : Nat) (O : Option Addr) (out : LT), sv = .string (bs r) ∧ ov = .slice O p oc ∧ r.length ≤ f ∧ r.length ≤ 1048576 ∧ p ≤ 401 ∧ Hid (out.length = p) ∧ Hid (rdI f r out = R) ∧ Hid (Own wr w1.heap.size 62 2 O p oc (out.flatMap enc2)) ∧ Below w1.heap.size w1 wr) (fun sv _ _ => (match sv with | .string b => b.size | _ => 0))
  case atStart => exact ⟨s, 0, 0, s.length, _, [], rfl, rfl, Nat.le_refl _, hs, by omega, rfl, HR.out, Own.litK (Nat.le_refl _), below_size.alloc (Nat.le_refl _) _⟩
  case round =>
    obtain ⟨r, p, oc, f, O, out, rfl, rfl, hf, hs2, hp, hol, hr, hO, hb⟩ := hrel
    have HB := Lib.hid hb; have HOL := Lib.hid hol.out
    have hwz := hb.size
    have Zr := Lib.hid (Z1.out.keep hb)
    have Er := Lib.hid (E1.out.trans (hb.mono hz1))
    have hzr := Er.out.size
    have gs := bs_toListS r
    cases r with
    | nil =>
      have HG := Lib.hid (show out = R by rw [← hr.out, rdI_nil])
      clear hr hb
      go_wp2_with fail
      go_ret
      have hpl : p = l := by rw [← HOL.out, HG.out, HRL.out]
      subst hpl
      rw [← HG.out]
      exact ⟨O, oc, rfl, HOL.out, hO.out.wrK.wider hz1 (Nat.le_refl _), hO.out.cap, Er.out⟩
    | cons c r' =>
      have gn : (c :: r').isEmpty = false := rfl
      obtain ⟨x, hx⟩ : ∃ x : Int, (c.toNat : Int) = x := ⟨_, rfl⟩
      have hix : ∀ w, (Instr.index 9 (.string (bs (c :: r'))) (.int .i64 0)).run Tryz.prog w = .ok (.int .u8 x) w := fun w => run_ixS (k := 0) (s := c :: r') rfl hx w
      have hsl : ∀ w, (Instr.slice 9 (.string (bs (c :: r'))) (some (.int .i64 1)) none none).run Tryz.prog w = .ok (.string (bs r')) w := fun w => run_slF (c :: r') 1 (by simp) w
      rw [List.length_cons] at hf hs2
      obtain ⟨f', rfl⟩ : ∃ f', f = f' + 1 := ⟨f - 1, by omega⟩
      have hr2 := hr.out
      by_cases hp4 : 400 < p
      · have g4 : decide ((p : Int) ≤ 400) = false := decide_eq_false (by omega)
        have HG := Lib.hid (show out = R by rw [← hr2, rdI_full (by rw [HOL.out]; exact hp4)])
        clear hr hr2 hb hx hix hsl
        go_wp2_with fail
        go_ret
        have hpl : p = l := by rw [← HOL.out, HG.out, HRL.out]
        subst hpl
        rw [← HG.out]
        exact ⟨O, oc, rfl, HOL.out, hO.out.wrK.wider hz1 (Nat.le_refl _), hO.out.cap, Er.out⟩
      have g4 : decide ((p : Int) ≤ 400) = true := decide_eq_true (by omega)
      have HP4 := Lib.hid (show ¬ 400 < out.length by rw [HOL.out]; exact hp4)
      by_cases h40 : c = 40
      · have g1 : (x == 40) = true := by rw [beq_iff_eq, ← hx, h40]; rfl
        have HS := Lib.hid (show rdI f' r' (out ++ [(2, 0)]) = R by rw [← hr2, rdI_app HP4.out h40])
        have x0 := Ext.cell (Zr.out.cell 0); have x1 := Ext.cell (Zr.out.cell 1)
        simp at x0 x1
        clear hr hr2 hb hx h40
        go_wp2_with fail
        refine Mix.wp_region_mix [0, 3, 1, 2, 0, 0, 0, 0] (fun w' => ∃ x : Ext wr, w' = x.w) (by kernel_rfl) (by kernel_rfl) (InExt.drew _) ?_
        repeat (first | (refine Mix.wpMix_read (by rfl) ?_; go_big_quiet_step (fail); refine wpQuiet_nil ?_) | (refine Mix.wpMix_pure (by rfl) ?_; go_big_quiet_step (fail); refine wpQuiet_nil ?_))
        refine Mix.wpMix_chg (by rfl) (fun K hK => ?_)
        go_wp2_with fail
        refine hK _ _ ⟨⟨_, below_drew (below_size.alloc (Nat.le_refl _) _)⟩, rfl⟩ ?_
        clear hK K
        refine Mix.wpMix_tail (by rfl) (fun K hK => ?_)
        refine wp_appLam (by rfl) _ _ (by rfl) w1.heap.size O p oc _ (by rfl) (by exact (hO.out.alloc _).drew) (some ⟨wr.heap.size, 0, none⟩) 1 1 [(2, 0)] (by rfl) (by exact (show Rd2 (wr.alloc (.cells #[.int .i64 2, .int .i64 0] 62)) (some ⟨wr.heap.size, 0, none⟩) 1 [(2, 0)] from Rd2.lit rfl rfl)) (by omega) (by exact (HB.out.alloc hwz _).drew.size) ?_
        intro A1 c1 w3 own1 hb1 hk1 hg1 hz3
        have E3 := Lib.hid ((HB.out.alloc hwz _).drew.trans hb1); have O3 := Lib.hid own1
        clear own1 hb1 hk1 hg1 hz3
        go_wp2_with fail
        refine hK _ _ ?_
        clear hK K
        repeat (first | (refine Mix.wpMix_read (by rfl) ?_; go_big_quiet_step (fail); refine wpQuiet_nil ?_) | (refine Mix.wpMix_pure (by rfl) ?_; go_big_quiet_step (fail); refine wpQuiet_nil ?_))
        (refine Mix.wpMix_nil ?_; try simp only [Exit.then])
        go_wp2_with fail
        go_roundw
        case rel => exact ⟨r', p + 1, c1, f', A1, out ++ [(2, 0)], rfl, rfl, by omega, by omega, by omega, by unfold Hid; rw [List.length_append, HOL.out]; rfl, HS.out, by unfold Hid; rw [List.flatMap_append]; exact O3.out, E3.out⟩
        case measure => simp [bs_size]
      have g1 : (x == 40) = false := by rw [beq_eq_false_iff_ne, ← hx]; exact fun e => h40 (UInt8.toNat_inj.1 (by show c.toNat = 40; omega))
      by_cases h3 : c = 32 ∨ c = 41
      · have HS := Lib.hid (show rdI f' r' out = R by rw [← hr2, rdI_skip HP4.out h40 h3])
        by_cases h32 : c = 32
        · have g2 : (x == 32) = true := by rw [beq_iff_eq, ← hx, h32]; rfl
          clear hr hr2 hb hx h40 h3 h32
          go_wp2_with fail
          go_roundw
          case rel => exact ⟨r', p, oc, f', O, out, rfl, rfl, by omega, by omega, by omega, HOL.out, HS.out, hO.out, HB.out⟩
          case measure => simp [bs_size]
        · have h41 : c = 41 := h3.resolve_left h32
          have g2 : (x == 32) = false := by rw [beq_eq_false_iff_ne, ← hx]; exact fun e => h32 (UInt8.toNat_inj.1 (by show c.toNat = 32; omega))
          have g3 : (x == 41) = true := by rw [beq_iff_eq, ← hx, h41]; rfl
          clear hr hr2 hb hx h40 h3 h32 h41
          go_wp2_with fail
          go_roundw
          case rel => exact ⟨r', p, oc, f', O, out, rfl, rfl, by omega, by omega, by omega, HOL.out, HS.out, hO.out, HB.out⟩
          case measure => simp [bs_size]
      have g2 : (x == 32) = false := by rw [beq_eq_false_iff_ne, ← hx]; exact fun e => h3 (.inl (UInt8.toNat_inj.1 (by show c.toNat = 32; omega)))
      have g3 : (x == 41) = false := by rw [beq_eq_false_iff_ne, ← hx]; exact fun e => h3 (.inr (UInt8.toNat_inj.1 (by show c.toNat = 41; omega)))
      obtain ⟨⟨kd, v, k⟩, hel⟩ : ∃ z, elI (c :: r') = z := ⟨_, rfl⟩
      have hcase := rdI_el (f := f') (c := c) (s := r') HP4.out h40 h3
      rw [hr2, hel] at hcase
      simp only at hcase
      have HC := Lib.hid (fun (w : World) (hL : LibS w) => ReadLam1_c (c :: r') (kd, v, k) w (by simp; omega) (by simp) hL hel)
      have HLr := Lib.hid (HL.out.below HB.out)
      clear hr hr2 hx h40 h3 hel hsl
      rcases hcase with ⟨hk0, hRn⟩ | ⟨hk1, hkl, hRs⟩
      · have hk9 := hk0
        subst hk9
        have HG := Lib.hid hRn
        clear hRn hk0 hb
        go_wp2_with fail
        refine (HC.out _ HLr.out).mono ?_
        rintro e w3 ⟨rfl, hb3⟩
        have E3 := Lib.hid (Er.out.trans (hb3.mono hzr))
        clear hb3
        go_wp2_with fail
        go_ret
        have hl0 : l = 0 := by rw [← HRL.out, HG.out]; rfl
        subst hl0
        rw [HG.out]
        exact ⟨none, 0, rfl, rfl, Wr.nil, Nat.le_refl _, (E3.out.alloc E3.out.size _)⟩
      · obtain ⟨u, hu⟩ : ∃ u, (c :: r').drop k = u := ⟨_, rfl⟩
        have hsl := fun w => run_slF (c :: r') k hkl w
        rw [hu] at hsl hRs
        have hul : u.length + k = r'.length + 1 := by rw [← hu, List.length_drop, List.length_cons]; rw [List.length_cons] at hkl; omega
        have HS := Lib.hid hRs.symm
        have g5 : ((k : Int) == 0) = false := by rw [beq_eq_false_iff_ne]; omega
        have HUL := Lib.hid hul
        clear hRs hu hb hkl hul
        go_wp2_with fail
        refine (HC.out _ HLr.out).mono ?_
        rintro e w3 ⟨rfl, hb3⟩
        have E3 := Lib.hid (HB.out.trans (hb3.mono hwz)); have O3 := Lib.hid (hO.out.keep hb3); have hz3 := E3.out.size
        clear hb3
        obtain ⟨w4, hw4⟩ : ∃ w4, w3.alloc (.cells #[.int .i64 kd, .int .i64 v] 62) = w4 := ⟨_, rfl⟩
        have E4 := Lib.hid (show Below w1.heap.size w1 w4 by rw [← hw4]; exact E3.out.alloc hz3 _)
        have O4 := Lib.hid (show Own w4 w1.heap.size 62 2 O p oc (out.flatMap enc2) by rw [← hw4]; exact O3.out.alloc _)
        have hz4 := E4.out.size
        have x0 := Ext.cell (show w4.cell? ⟨w3.heap.size, 0, none⟩ = some (.int .i64 kd) by rw [← hw4]; exact new_cell _ _ _ 0)
        have x1 := Ext.cell (show w4.cell? ⟨w3.heap.size, 1, none⟩ = some (.int .i64 v) by rw [← hw4]; exact new_cell _ _ _ 1)
        go_wp2_with fail
        refine Mix.wp_region_mix [0, 3, 1, 2, 0, 0, 0, 0, 0] (fun w' => ∃ x : Ext w4, w' = x.w) (by kernel_rfl) (by kernel_rfl) (InExt.drew _) ?_
        repeat (first | (refine Mix.wpMix_read (by rfl) ?_; go_big_quiet_step (fail); refine wpQuiet_nil ?_) | (refine Mix.wpMix_pure (by rfl) ?_; go_big_quiet_step (fail); refine wpQuiet_nil ?_))
        refine Mix.wpMix_chg (by rfl) (fun K hK => ?_)
        go_wp2_with fail
        refine hK _ _ ⟨⟨_, below_drew (below_size.alloc (Nat.le_refl _) _)⟩, rfl⟩ ?_
        clear hK K
        refine Mix.wpMix_tail (by rfl) (fun K hK => ?_)
        refine wp_appLam (by rfl) _ _ (by rfl) w1.heap.size O p oc _ (by rfl) (by exact (O4.out.alloc _).drew) (some ⟨w4.heap.size, 0, none⟩) 1 1 [(kd, v)] (by rfl) (by exact (show Rd2 (w4.alloc (.cells #[.int .i64 kd, .int .i64 v] 62)) (some ⟨w4.heap.size, 0, none⟩) 1 [(kd, v)] from Rd2.lit rfl rfl)) (by omega) (by exact (E4.out.alloc hz4 _).drew.size) ?_
        intro A1 c1 w5 own1 hb1 hk1' hg1 hz5
        have E5 := Lib.hid ((E4.out.alloc hz4 _).drew.trans hb1); have O5 := Lib.hid own1
        clear own1 hb1 hk1' hg1 hz5
        go_wp2_with fail
        refine hK _ _ ?_
        clear hK K
        repeat (first | (refine Mix.wpMix_read (by rfl) ?_; go_big_quiet_step (fail); refine wpQuiet_nil ?_) | (refine Mix.wpMix_pure (by rfl) ?_; go_big_quiet_step (fail); refine wpQuiet_nil ?_))
        (refine Mix.wpMix_nil ?_; try simp only [Exit.then])
        go_wp2_with fail
        go_roundw
        case rel => exact ⟨u, p + 1, c1, f', A1, out ++ [(kd, v)], rfl, rfl, by have := HUL.out; omega, by have := HUL.out; omega, by omega, by unfold Hid; rw [List.length_append, HOL.out]; rfl, HS.out, by unfold Hid; rw [List.flatMap_append]; exact O5.out, E5.out⟩
        case measure => have := HUL.out; simp [bs_size]; omega
set_option maxHeartbeats 1000000 in
theorem ReadLam_c (tx : List UInt8) (t : LT) (n : Nat) (w : World) (hL : LibS w) (hs : tx.length ≤ 90000) (hr : rdI tx.length tx [] = t) (hv : validL t = true) (htx : TxT t tx) (hn : t.length = n) :
    Calls Tryz.prog 55 #[.string (bs tx)] w fun e w' => ∃ A c, e = .returned (.tuple #[.slice A n c, .bool true]) ∧ Wr w' w.heap.size w'.heap.size A (n * 2) (t.flatMap enc2) ∧ n ≤ c ∧ Below w.heap.size w w' := by
  have HC := Lib.hid (readTermLam_c tx t n w (by omega) hL hr hn)
  have HL := Lib.hid hL; have HV := Lib.hid hv; have HX := Lib.hid htx
  have hn4 : n ≤ 400 := by rw [← hn]; exact (validL_end hv).2.2
  have gs := bs_toListS tx
  clear hL hr hv htx hn
  go_enter Tryz.func55, Tryz.ntmps55
  go_wp2_with fail
  refine HC.out.mono ?_
  rintro e w1 ⟨A1, c1, rfl, hl1, hw1, hc1, hb1⟩
  have B1 := Lib.hid hb1; have W1 := Lib.hid hw1; have C1 := Lib.hid hc1; have R1 := Lib.hid (show Rd2 w1 A1 n t from hw1.rd)
  have hz1 := hb1.size
  clear hl1 hw1 hc1 hb1
  go_wp2_with fail
  refine (validLam_c A1 n c1 t true w1 R1.out (by omega) HV.out).mono ?_
  rintro e w2 ⟨rfl, hb2⟩
  have B2 := Lib.hid (B1.out.trans (hb2.mono hz1)); have W2 := Lib.hid ((W1.out.below hb2).wider (Nat.le_refl _) hb2.size); have R2 := Lib.hid (R1.out.below hb2)
  clear hb2
  go_wp2_with fail
  refine (LamText_c A1 n c1 t tx w2 R2.out HV.out (HL.out.below B2.out).tab HX.out (by omega)).mono ?_
  rintro e w3 ⟨rfl, hb3⟩
  have B3 := Lib.hid (B2.out.trans (hb3.mono B2.out.size)); have W3 := Lib.hid ((W2.out.below hb3).wider (Nat.le_refl _) hb3.size)
  clear hb3
  go_wp2_with fail
  go_ret2
  exact ⟨A1, c1, rfl, W3.out, C1.out, B3.out⟩
set_option maxHeartbeats 1000000 in
theorem lamOf_c (tx : List UInt8) (t : LT) (n : Nat) (w : World) (hL : LibS w) (hs : tx.length ≤ 90000) (hr : rdI tx.length tx [] = t) (hv : validL t = true) (htx : TxT t tx) (hn : t.length = n) :
    Calls Tryz.prog 26 #[.string (bs tx)] w (TmOut t n w) := by
  have HC := Lib.hid (ReadLam_c tx t n w hL hs hr hv htx hn)
  have HN := Lib.hid hn
  clear hL hr hv htx hn
  go_enter Tryz.func26, Tryz.ntmps26
  go_wp2_with fail
  refine HC.out.mono ?_
  rintro e w1 ⟨A1, c1, rfl, hw1, hc1, hb1⟩
  have B1 := Lib.hid hb1; have W1 := Lib.hid hw1; have C1 := Lib.hid hc1
  clear hw1 hc1 hb1
  go_wp2_with fail
  go_ret
  exact ⟨A1, c1, rfl, HN.out, W1.out, C1.out, B1.out⟩
theorem lamOf_suc (w : World) (hL : LibS w) : Calls Tryz.prog 26 #[.string ⟨#[94, 94, 94, 40, 49, 32, 40, 40, 50, 32, 49, 41, 32, 48, 41, 41]⟩] w (TmOut sucLm 10 w) := lamOf_c sucTx sucLm 10 w hL (by decide) rdI_suc (by decide) tx_suc rfl
theorem lamOf_fal (w : World) (hL : LibS w) : Calls Tryz.prog 26 #[.string ⟨#[94, 94, 48]⟩] w (TmOut falLm 3 w) := lamOf_c falTx falLm 3 w hL (by decide) rdI_fal (by decide) tx_fal rfl
end Go.Proofs.YtebjpmmgdkepjaaGreatDoor
