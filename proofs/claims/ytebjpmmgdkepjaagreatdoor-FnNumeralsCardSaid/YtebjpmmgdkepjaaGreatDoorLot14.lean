/-
  Parts of the proof, one behind the other: contracts of the functions that the law reaches, and plain laws.
-/
import Derived.Laws.StructEq
import Derived.Deep.Upon
import Derived.Test.YtebjpmmgdkepjaaGreatDoorLot03
import Derived.Test.YtebjpmmgdkepjaaGreatDoorLot04
import Derived.Test.YtebjpmmgdkepjaaGreatDoorLot05
import Derived.Test.YtebjpmmgdkepjaaGreatDoorLot06
import Derived.Test.YtebjpmmgdkepjaaGreatDoorLot13
/-
  The two ways to name variables in combinator terms, in plain Lean; what the abstraction leaves. Nothing of the program.
-/
namespace Go.Proofs.YtebjpmmgdkepjaaGreatDoor
open Go.RowKit

/-- the other name of a variable -/
def rnC (x : Int × Int) : Int × Int := if x.1 = 4 then (4, 399 - x.2) else x
theorem rnC_kind (x : Int × Int) : (rnC x).1 = x.1 := by
  unfold rnC; split
  · rename_i h; exact h.symm
  · rfl
theorem rnC_inj {x y : Int × Int} (h : rnC x = rnC y) : x = y := by
  have hk : x.1 = y.1 := by rw [← rnC_kind x, ← rnC_kind y, h]
  unfold rnC at h
  by_cases h4 : x.1 = 4
  · rw [if_pos h4, if_pos (by omega)] at h
    injection h with _ h
    exact Prod.ext hk (by omega)
  · rw [if_neg h4, if_neg (by omega)] at h
    exact h
theorem rnC_mem {k : Int} {c : LT} : (4, 399 - k) ∈ c.map rnC ↔ (4, k) ∈ c := by
  have e : ((4, 399 - k) : Int × Int) = rnC (4, k) := by simp [rnC]
  rw [e, List.mem_map]
  exact ⟨fun ⟨x, hx, h⟩ => by rw [← rnC_inj h]; exact hx, fun h => ⟨_, h, rfl⟩⟩
theorem rnC_one {k : Int} {c : LT} : c.map rnC = [(4, 399 - k)] ↔ c = [(4, k)] := by
  have e : ([(4, 399 - k)] : LT) = [(4, k)].map rnC := by simp [rnC]
  rw [e]
  refine ⟨fun h => ?_, fun h => by rw [h]⟩
  match c, h with
  | [x], h => simp only [List.map_cons, List.map_nil] at h; injection h with h _; rw [rnC_inj h]
  | [], h => cases h
  | _ :: _ :: _, h => injection h with _ h; cases h
theorem endP_rn : ∀ (c : LT) (n : Nat), endP manyC (c.map rnC) n = endP manyC c n
  | c, 0 => by rw [endP_zero, endP_zero]
  | [], n + 1 => rfl
  | x :: c, n + 1 => by rw [List.map_cons, endP_cons, endP_cons, rnC_kind, endP_rn c]
theorem midC_rn (c : LT) : midC (c.map rnC) = midC c := by rw [midC, midC, ← List.map_drop, endP_rn]
theorem absC_rn : ∀ (f : Nat) (k : Int) (c : LT), absC f (399 - k) (c.map rnC) = (absC f k c).map rnC
  | 0, k, c => rfl
  | f + 1, k, c => by
    rw [absC, absC]
    by_cases h1 : c = [(4, k)]
    · rw [if_pos (rnC_one.2 h1), if_pos h1]; rfl
    · rw [if_neg (fun h => h1 (rnC_one.1 h)), if_neg h1]
      by_cases h2 : (4, k) ∈ c
      · have n1 : ¬ ¬ (4, 399 - k) ∈ c.map rnC := fun h => h (rnC_mem.2 h2)
        have n2 : ¬ ¬ (4, k) ∈ c := fun h => h h2
        rw [if_neg n1, if_neg n2, midC_rn]
        rw [← List.map_drop, ← List.map_take, ← List.map_drop]
        by_cases h3 : c.drop (midC c) = [(4, k)] ∧ ¬ (4, k) ∈ (c.take (midC c)).drop 1
        · rw [if_pos ⟨rnC_one.2 h3.1, fun h => h3.2 (rnC_mem.1 h)⟩, if_pos h3]
        · rw [if_neg (fun h => h3 ⟨rnC_one.1 h.1, fun h' => h.2 (rnC_mem.2 h')⟩), if_neg h3, absC_rn f, absC_rn f]
          simp [rnC]
      · rw [if_pos (fun h => h2 (rnC_mem.1 h)), if_pos h2]
        simp [rnC]
/-- one combinator term -/
inductive Cw : LT → Prop
  | atom {x : Int × Int} : (x.1 = 1 ∧ x.2 = 0) ∨ (x.1 = 2 ∧ x.2 = 0) ∨ (x.1 = 3 ∧ x.2 = 0) ∨ x.1 = 4 → Cw [x]
  | app {a b : LT} : Cw a → Cw b → Cw ((0, 0) :: (a ++ b))
theorem manyC_atom {x : Int × Int} (h : (x.1 = 1 ∧ x.2 = 0) ∨ (x.1 = 2 ∧ x.2 = 0) ∨ (x.1 = 3 ∧ x.2 = 0) ∨ x.1 = 4) : manyC x.1 = 0 := by
  unfold manyC; rw [if_neg (by omega)]
theorem Cw.pos {c : LT} (h : Cw c) : 1 ≤ c.length := by cases h <;> simp
theorem Cw.end_ {c : LT} (h : Cw c) : ∀ (r : LT) (n : Nat), endP manyC (c ++ r) (n + 1) = (endP manyC r n).map (c.length + ·) := by
  induction h with
  | @atom x hx =>
    intro r n
    show endP manyC (x :: r) (n + 1) = _
    rw [endP_cons, manyC_atom hx]
    cases endP manyC r n <;> simp [Nat.add_comm]
  | @app a b _ _ ih1 ih2 =>
    intro r n
    rw [List.cons_append, endP_cons, show n + manyC ((0 : Int), (0 : Int)).1 = n + 1 + 1 from rfl, List.append_assoc, ih1, ih2]
    cases endP manyC r n
    · rfl
    · simp; omega
theorem Cw.one {c : LT} (h : Cw c) : endP manyC c 1 = some c.length := by
  have := h.end_ [] 0
  rw [List.append_nil, endP_zero] at this
  simpa using this
theorem Cw.mid {a b : LT} (ha : Cw a) : midC ((0, 0) :: (a ++ b)) = 1 + a.length := by
  rw [midC, List.drop_succ_cons, List.drop_zero, ha.end_ b 0, endP_zero]; rfl
theorem Cw.take {a b : LT} (ha : Cw a) : ((((0 : Int), (0 : Int)) :: (a ++ b)).take (midC ((0, 0) :: (a ++ b)))).drop 1 = a := by
  rw [ha.mid, Nat.add_comm, List.take_succ_cons, List.drop_succ_cons, List.drop_zero, List.take_left]
theorem Cw.drop {a b : LT} (ha : Cw a) : (((0 : Int), (0 : Int)) :: (a ++ b)).drop (midC ((0, 0) :: (a ++ b))) = b := by
  rw [ha.mid, Nat.add_comm, List.drop_succ_cons, List.drop_left]
/-- the abstraction: one term, without the variable, and nothing new but combinators -/
structure AbsOk (k : Int) (c u : LT) : Prop where
  cw : Cw u
  no : (4, k) ∉ u
  sub : ∀ x ∈ u, x.1 = 4 → x ∈ c
theorem absC_ok {k : Int} {c : LT} (h : Cw c) : ∀ f, c.length ≤ f → AbsOk k c (absC f k c) := by
  have hI : Cw [((3 : Int), (0 : Int))] := .atom (by decide)
  have hK : Cw [((2 : Int), (0 : Int))] := .atom (by decide)
  have hS : Cw [((1 : Int), (0 : Int))] := .atom (by decide)
  have hno : ∀ c : LT, Cw c → (4, k) ∉ c → AbsOk k c ((0, 0) :: (2, 0) :: c) := fun c hc hn =>
    ⟨.app (a := [(2, 0)]) hK hc, fun h => by
      rcases List.mem_cons.1 h with h | h
      · cases h
      · rcases List.mem_cons.1 h with h | h
        · cases h
        · exact hn h, fun x hx h4 => by
      rcases List.mem_cons.1 hx with rfl | hx
      · cases h4
      · rcases List.mem_cons.1 hx with rfl | hx
        · cases h4
        · exact hx⟩
  induction h with
  | @atom x hx =>
    intro f hf
    obtain ⟨f, rfl⟩ : ∃ g, f = g + 1 := ⟨f - 1, by simp at hf; omega⟩
    rw [absC]
    by_cases h1 : [x] = [(4, k)]
    · rw [if_pos h1]
      exact ⟨hI, (by simp), fun y hy h4 => by rw [List.mem_singleton] at hy; subst hy; cases h4⟩
    · rw [if_neg h1, if_pos (fun h => h1 (by rw [List.mem_singleton] at h; rw [h]))]
      exact hno _ (.atom hx) fun h => h1 (by rw [List.mem_singleton] at h; rw [h])
  | @app a b ha hb iha ihb =>
    intro f hf
    obtain ⟨f, rfl⟩ : ∃ g, f = g + 1 := ⟨f - 1, by simp at hf; omega⟩
    have hf' : a.length ≤ f ∧ b.length ≤ f := by simp at hf; omega
    rw [absC]
    rw [if_neg (by intro e; injection e with e; cases e)]
    by_cases h2 : (4, k) ∈ ((0, 0) :: (a ++ b))
    · have n2 : ¬ ¬ (4, k) ∈ ((0, 0) :: (a ++ b)) := fun h => h h2
      rw [if_neg n2, ha.take, ha.drop]
      by_cases h3 : b = [(4, k)] ∧ ¬ (4, k) ∈ a
      · rw [if_pos h3]
        exact ⟨ha, h3.2, fun x hx _ => by simp [hx]⟩
      · rw [if_neg h3]
        obtain ⟨c1, n1, s1⟩ := iha f hf'.1
        obtain ⟨c2, n2, s2⟩ := ihb f hf'.2
        refine ⟨?_, ?_, ?_⟩
        · have := Cw.app (Cw.app hS c1) c2
          simpa using this
        · simp only [List.mem_cons, List.mem_append]
          rintro (h | h | h | h | h)
          · cases h
          · cases h
          · cases h
          · exact n1 h
          · exact n2 h
        · intro x hx h4
          simp only [List.mem_cons, List.mem_append] at hx
          rcases hx with rfl | rfl | rfl | hx | hx
          · cases h4
          · cases h4
          · cases h4
          · have := s1 x hx h4; simp [this]
          · have := s2 x hx h4; simp [this]
    · rw [if_pos h2]
      exact hno _ (.app ha hb) h2
/-- the reference's combinator term -/
def lcR : Nat → Nat → LT → Option (LT × LT)
  | 0, _, _ => none
  | _ + 1, _, [] => none
  | f + 1, d, x :: r => if x.1 = 0 then some ([(4, if x.2 - (d : Int) < 0 then 400 + (d : Int) - 1 - x.2 else x.2 - (d : Int))], r) else if x.1 = 1 then
      (match lcR f (d + 1) r with
      | none => none
      | some (c, r') => if (absC c.length (400 + (d : Int)) c).length ≤ 400 then some (absC c.length (400 + (d : Int)) c, r') else none)
    else match lcR f d r with
      | none => none
      | some (a, r1) => match lcR f d r1 with
        | none => none
        | some (b, r2) => if ((0, 0) :: (a ++ b)).length ≤ 400 then some ((0, 0) :: (a ++ b), r2) else none
/-- what a closed term becomes -/
structure LcOk (d : Nat) (t r : LT) (f : Nat) (o : Option LT) : Prop where
  prog : lcP f d (t ++ r) = o.map (·, r)
  ref : lcR f d (t ++ r) = o.map fun c => (c.map rnC, r)
  cw : ∀ c, o = some c → Cw c ∧ c.length ≤ 400 ∧ ∀ x ∈ c, x.1 = 4 → -(d : Int) ≤ x.2 ∧ x.2 ≤ -1
theorem lc_ok {d : Nat} {t : LT} (h : Clo d t) : ∀ (r : LT) (f : Nat), t.length ≤ f → ∃ o, LcOk d t r f o := by
  induction h with
  | @var d i h1 h2 =>
    intro r f hf
    obtain ⟨f, rfl⟩ : ∃ g, f = g + 1 := ⟨f - 1, by simp at hf; omega⟩
    refine ⟨some [(4, i - (d : Int))], ?_, ?_, ?_⟩
    · show lcP (f + 1) d ((0, i) :: r) = _
      rw [lcP, if_pos rfl]; rfl
    · show lcR (f + 1) d ((0, i) :: r) = _
      rw [lcR, if_pos rfl, if_pos (by show i - (d : Int) < 0; omega)]
      simp [rnC]; omega
    · intro c hc
      injection hc with hc; subst hc
      refine ⟨.atom (.inr (.inr (.inr rfl))), by simp, fun x hx _ => ?_⟩
      rw [List.mem_singleton] at hx; subst hx
      simp only; omega
  | @abs d t _ ih =>
    intro r f hf
    obtain ⟨f, rfl⟩ : ∃ g, f = g + 1 := ⟨f - 1, by simp at hf; omega⟩
    obtain ⟨o, h1, h2, h3⟩ := ih r f (by simp at hf; omega)
    cases o with
    | none =>
      refine ⟨none, ?_, ?_, fun c hc => by cases hc⟩
      · show lcP (f + 1) d ((1, 0) :: (t ++ r)) = _
        rw [lcP, if_neg (by decide), if_pos rfl, h1]; rfl
      · show lcR (f + 1) d ((1, 0) :: (t ++ r)) = _
        rw [lcR, if_neg (by decide), if_pos rfl, h2]; rfl
    | some c =>
      obtain ⟨g1, g2, g3⟩ := h3 c rfl
      have hk := absC_ok (k := -1 - (d : Int)) g1 c.length (Nat.le_refl _)
      have hr : absC (c.map rnC).length (400 + (d : Int)) (c.map rnC) = (absC c.length (-1 - (d : Int)) c).map rnC := by
        rw [List.length_map, ← absC_rn]; congr 1; omega
      by_cases hl : (absC c.length (-1 - (d : Int)) c).length ≤ 400
      · refine ⟨some (absC c.length (-1 - (d : Int)) c), ?_, ?_, ?_⟩
        · show lcP (f + 1) d ((1, 0) :: (t ++ r)) = _
          rw [lcP, if_neg (by decide), if_pos rfl, h1]
          simp only [Option.map_some]
          rw [if_pos hl]
        · show lcR (f + 1) d ((1, 0) :: (t ++ r)) = _
          rw [lcR, if_neg (by decide), if_pos rfl, h2]
          simp only [Option.map_some]
          rw [hr, List.length_map, if_pos hl]
        · intro c' hc'
          injection hc' with hc'; subst hc'
          refine ⟨hk.cw, hl, fun x hx h4 => ?_⟩
          have h5 := g3 x (hk.sub x hx h4) h4
          have h6 : x.2 ≠ -1 - (d : Int) := fun e => hk.no (by have h7 : ((4 : Int), -1 - (d : Int)) = x := Prod.ext h4.symm e.symm; rw [h7]; exact hx)
          omega
      · refine ⟨none, ?_, ?_, fun c hc => by cases hc⟩
        · show lcP (f + 1) d ((1, 0) :: (t ++ r)) = _
          rw [lcP, if_neg (by decide), if_pos rfl, h1]
          simp only [Option.map_some]
          rw [if_neg hl]; rfl
        · show lcR (f + 1) d ((1, 0) :: (t ++ r)) = _
          rw [lcR, if_neg (by decide), if_pos rfl, h2]
          simp only [Option.map_some]
          rw [hr, List.length_map, if_neg hl]; rfl
  | @app d a b ha hb iha ihb =>
    intro r f hf
    obtain ⟨f, rfl⟩ : ∃ g, f = g + 1 := ⟨f - 1, by simp at hf; omega⟩
    have hf' : a.length ≤ f ∧ b.length ≤ f := by simp at hf; omega
    obtain ⟨o, h1, h2, h3⟩ := iha (b ++ r) f hf'.1
    obtain ⟨o', h1', h2', h3'⟩ := ihb r f hf'.2
    have e : ((2, 0) :: (a ++ b)) ++ r = (2, 0) :: (a ++ (b ++ r)) := by simp
    cases o with
    | none =>
      refine ⟨none, ?_, ?_, fun c hc => by cases hc⟩
      · rw [e, lcP, if_neg (by decide), if_neg (by decide), h1]; rfl
      · rw [e, lcR, if_neg (by decide), if_neg (by decide), h2]; rfl
    | some c =>
      obtain ⟨g1, g2, g3⟩ := h3 c rfl
      cases o' with
      | none =>
        refine ⟨none, ?_, ?_, fun c hc => by cases hc⟩
        · rw [e, lcP, if_neg (by decide), if_neg (by decide), h1]
          simp only [Option.map_some]
          rw [h1']; rfl
        · rw [e, lcR, if_neg (by decide), if_neg (by decide), h2]
          simp only [Option.map_some]
          rw [h2']; rfl
      | some c' =>
        obtain ⟨g1', g2', g3'⟩ := h3' c' rfl
        have hm : ((0, 0) :: (c.map rnC ++ c'.map rnC) : LT) = ((0, 0) :: (c ++ c')).map rnC := by simp [rnC]
        by_cases hl : ((0, 0) :: (c ++ c') : LT).length ≤ 400
        · refine ⟨some ((0, 0) :: (c ++ c')), ?_, ?_, ?_⟩
          · rw [e, lcP, if_neg (by decide), if_neg (by decide), h1]
            simp only [Option.map_some]
            rw [h1']
            simp only [Option.map_some]
            rw [if_pos hl]
          · rw [e, lcR, if_neg (by decide), if_neg (by decide), h2]
            simp only [Option.map_some]
            rw [h2']
            simp only [Option.map_some]
            rw [hm, List.length_map, if_pos hl]
          · intro u hu
            injection hu with hu; subst hu
            refine ⟨.app g1 g1', hl, fun x hx h4 => ?_⟩
            rcases List.mem_cons.1 hx with rfl | hx
            · cases h4
            · rcases List.mem_append.1 hx with hx | hx
              · exact g3 x hx h4
              · exact g3' x hx h4
        · refine ⟨none, ?_, ?_, fun c hc => by cases hc⟩
          · rw [e, lcP, if_neg (by decide), if_neg (by decide), h1]
            simp only [Option.map_some]
            rw [h1']
            simp only [Option.map_some]
            rw [if_neg hl]; rfl
          · rw [e, lcR, if_neg (by decide), if_neg (by decide), h2]
            simp only [Option.map_some]
            rw [h2']
            simp only [Option.map_some]
            rw [hm, List.length_map, if_neg hl]; rfl
end Go.Proofs.YtebjpmmgdkepjaaGreatDoor
/-
  Closed lambda terms have combinator terms without variables; what a function's evaluation by terms gives. Nothing of the program.
-/
namespace Go.Proofs.YtebjpmmgdkepjaaGreatDoor
open Go.RowKit

theorem Cw.elem {c : LT} (h : Cw c) : ∀ x ∈ c, (0 ≤ x.1 ∧ x.1 ≤ 3 ∧ x.2 = 0) ∨ x.1 = 4 := by
  induction h with
  | @atom x hx =>
    intro y hy
    rw [List.mem_singleton] at hy; subst hy; omega
  | @app a b _ _ ih1 ih2 =>
    intro y hy
    rcases List.mem_cons.1 hy with rfl | hy
    · exact .inl (by decide)
    · rcases List.mem_append.1 hy with hy | hy
      · exact ih1 y hy
      · exact ih2 y hy
theorem lc_zero {t : LT} (h : Clo 0 t) : ∃ o : Option LT, lcP t.length 0 t = o.map (·, []) ∧ lcR t.length 0 t = o.map (·, []) ∧ ∀ c, o = some c → validC c = true := by
  obtain ⟨o, h1, h2, h3⟩ := lc_ok h [] t.length (Nat.le_refl _)
  rw [List.append_nil] at h1 h2
  refine ⟨o, h1, ?_, fun c hc => ?_⟩
  · rw [h2]
    cases o with
    | none => rfl
    | some c =>
      obtain ⟨g1, _, g3⟩ := h3 c rfl
      have : c.map rnC = c := by
        refine (List.map_congr_left fun x hx => ?_).trans (List.map_id c)
        unfold rnC
        split
        · rename_i h4; have := g3 x hx h4; omega
        · rfl
      simp only [Option.map_some, this]
  · obtain ⟨g1, g2, g3⟩ := h3 c hc
    rw [validC, g1.one, decide_eq_true rfl, Bool.and_true, Bool.and_eq_true]
    refine ⟨inB_of (by have := g1.pos; omega) (by omega), List.all_eq_true.2 fun x hx => ?_⟩
    rcases g1.elem x hx with ⟨k1, k2, k3⟩ | h4
    · obtain ⟨p, v⟩ := x
      simp only at k1 k2 k3
      subst k3
      have : p = 0 ∨ p = 1 ∨ p = 2 ∨ p = 3 := by omega
      rcases this with rfl | rfl | rfl | rfl <;> decide
    · have := g3 x hx h4; omega
end Go.Proofs.YtebjpmmgdkepjaaGreatDoor
/-
  A slice of the call's own whose elements hold slices of the call's own: how it grows. Nothing of the program.
-/
namespace Go.Proofs.YtebjpmmgdkepjaaGreatDoor
open Go.RowKit

/-- the head row (grown by append) and the rows of its elements, all in blocks of the call's own, all apart -/
structure OwnS (w : World) (B : Nat) (e : TypeId) (size : Nat) (A : Option Addr) (n c : Nat) (vs : List Value) (ss : List Seg) : Prop where
  own : Own w B e size A n c vs
  wrs : WrS w B w.heap.size ss
  ne : ∀ s ∈ ss, ∀ ad a, A = some ad → s.A = some a → 0 < s.n → a.block ≠ ad.block

section
variable {w w' : World} {B : Nat} {e : TypeId} {size n c : Nat} {A : Option Addr} {vs : List Value} {ss : List Seg}
theorem Wr.move {lo hi hi' n : Nat} {A : Option Addr} {vs : List Value} (h : Wr w lo hi A n vs) (hk : ∀ ad, 0 < n → A = some ad → w'.heap[ad.block]? = w.heap[ad.block]?) (hs : w.heap.size ≤ w'.heap.size) (hh : hi ≤ hi') : Wr w' lo hi' A n vs :=
  ⟨h.1, fun hn => by
    obtain ⟨ad, e, hB, hh, hlt, hc⟩ := h.2 hn
    have hb := hk ad hn e
    exact ⟨ad, e, hB, by omega, Nat.lt_of_lt_of_le hlt hs, fun j u hu => ⟨(World.cell?_of_block (a := ad.add j) (by rw [block_add]; exact hb)).trans (hc j u hu).1, (World.frozen?_of_block (a := ad.add j) (by rw [block_add]; exact hb)).trans (hc j u hu).2⟩⟩⟩
theorem OwnS.nil (h : Own w B e size A n c vs) : OwnS w B e size A n c vs [] := ⟨h, WrS.nil, fun s hs => by cases hs⟩
theorem OwnS.move (h : OwnS w B e size A n c vs ss) (hk : ∀ b, B ≤ b → b < w.heap.size → w'.heap[b]? = w.heap[b]?) (hs : w.heap.size ≤ w'.heap.size) : OwnS w' B e size A n c vs ss :=
  ⟨h.own.move fun ad ha => hk _ (h.own.block ha).1 (h.own.block ha).2.1,
   ⟨fun s hs' => (h.wrs.each s hs').move (fun ad hn e => by obtain ⟨ad', e', h1, _, h3, _⟩ := (h.wrs.each s hs').2 hn; rw [e] at e'; injection e' with e'; subst e'; exact hk _ h1 h3) hs hs, h.wrs.apart⟩, h.ne⟩
theorem OwnS.keep (h : OwnS w B e size A n c vs ss) (hb : Below w.heap.size w w') : OwnS w' B e size A n c vs ss := h.move (fun b _ hlt => hb.block b hlt) hb.size
theorem OwnS.alloc (h : OwnS w B e size A n c vs ss) (o : Obj) : OwnS (w.alloc o) B e size A n c vs ss := h.keep (below_size.alloc (Nat.le_refl _) o)
theorem OwnS.drew (h : OwnS w B e size A n c vs ss) : OwnS w.drew B e size A n c vs ss := ⟨h.own, ⟨h.wrs.each, h.wrs.apart⟩, h.ne⟩
theorem OwnS.drewN (h : OwnS w B e size A n c vs ss) (k : Nat) : OwnS (w.drewN k) B e size A n c vs ss := h.keep (below_drewN below_size k)
/-- all rows together -/
theorem OwnS.wrS (h : OwnS w B e size A n c vs ss) : WrS w B w.heap.size (⟨A, n * size, vs⟩ :: ss) :=
  ⟨fun s hs => by
    rcases List.mem_cons.1 hs with rfl | hs
    · exact h.own.wrK
    · exact h.wrs.each s hs, List.pairwise_cons.2 ⟨fun s hs a b ha hb _ hn => (h.ne s hs a b ha hb hn).symm, h.wrs.apart⟩⟩
/-- an element more: its row s is new since the world w0 -/
theorem OwnS.push {w0 w1 : World} {g' cap : Nat} {vs' : List Value} {s : Seg} {n' : Nat} (h : OwnS w0 B e size A n c vs ss) (hB : B ≤ w0.heap.size) (hb : Below w0.heap.size w0 w1) (hs : Wr w1 w0.heap.size w1.heap.size s.A s.n s.vs)
    (hown : Own w' B e size (some ⟨g', 0, none⟩) n' cap vs') (hk : ∀ b, b < w1.heap.size → (∀ ad', A = some ad' → ad'.block ≠ b) → w'.heap[b]? = w1.heap[b]?) (hg : A = some ⟨g', 0, none⟩ ∨ g' = w1.heap.size) (hz : w1.heap.size ≤ w'.heap.size) :
    OwnS w' B e size (some ⟨g', 0, none⟩) n' cap vs' (ss ++ [s]) := by
  have h1 := h.keep hb
  have hz1 := hb.size
  have hold : ∀ t ∈ ss, ∀ a, t.A = some a → 0 < t.n → a.block < w0.heap.size := fun t ht a ha hn => by
    obtain ⟨a', e', _, _, h3, _⟩ := (h.wrs.each t ht).2 hn
    rw [ha] at e'; injection e' with e'; subst e'; exact h3
  have hnew : ∀ a, s.A = some a → 0 < s.n → w0.heap.size ≤ a.block ∧ a.block < w1.heap.size := fun a ha hn => by
    obtain ⟨a', e', h2, _, h3, _⟩ := hs.2 hn
    rw [ha] at e'; injection e' with e'; subst e'; exact ⟨h2, h3⟩
  refine ⟨hown, ⟨fun t ht => ?_, ?_⟩, fun t ht ad a had ha hn => ?_⟩
  · rcases List.mem_append.1 ht with ht | ht
    · exact (h1.wrs.each t ht).move (fun a hn ha => hk _ (Nat.lt_of_lt_of_le (hold t ht a ha hn) hz1) fun ad' hA => (h.ne t ht ad' a hA ha hn).symm) hz hz
    · rw [List.mem_singleton] at ht; subst ht
      exact (hs.wider hB (Nat.le_refl _)).move (fun a hn ha => hk _ (hnew a ha hn).2 fun ad' hA => by have := (h.own.block hA).2.1; have := (hnew a ha hn).1; omega) hz hz
  · refine List.pairwise_append.2 ⟨h.wrs.apart, List.pairwise_singleton _ _, fun t ht u hu a b ha hb' hn hm => ?_⟩
    rw [List.mem_singleton] at hu; subst hu
    have := hold t ht a ha hn; have := (hnew b hb' hm).1; omega
  · injection had with had; subst had
    rcases List.mem_append.1 ht with ht | ht
    · rcases hg with hg | hg
      · exact h.ne t ht _ a hg ha hn
      · have := hold t ht a ha hn; show a.block ≠ g'; omega
    · rw [List.mem_singleton] at ht; subst ht
      rcases hg with hg | hg
      · have := (h.own.block hg).2.1; have := (hnew a ha hn).1; show a.block ≠ g'; simp at *; omega
      · have := (hnew a ha hn).2; show a.block ≠ g'; omega
end
end Go.Proofs.YtebjpmmgdkepjaaGreatDoor
/-
  Lists of terms in memory: a slice of the call's own whose elements hold terms. Nothing of the program.
-/
namespace Go.Proofs.YtebjpmmgdkepjaaGreatDoor
open Go.RowKit

/-- a term in memory -/
structure Tm where
  A : Option Addr
  c : Nat
  t : LT
def Tm.hd (p : Tm) : Value := .slice p.A p.t.length p.c
def Tm.it (p : Tm) : ItV := ⟨p.A, p.t.length, p.c, p.t.flatMap enc2⟩
/-- what a function gives that makes a term -/
def TmOut (t : LT) (n : Nat) (w : World) (e : Ending) (w' : World) : Prop := ∃ A c, e = .returned (.slice A n c) ∧ t.length = n ∧ Wr w' w.heap.size w'.heap.size A (n * 2) (t.flatMap enc2) ∧ n ≤ c ∧ Below w.heap.size w w'
structure LmS (w : World) (B : Nat) (e : TypeId) (A : Option Addr) (m c : Nat) (ps : List Tm) : Prop where
  own : Own w B e 1 A m c (ps.map Tm.hd)
  rd : ∀ p ∈ ps, Rd2 w p.A p.t.length p.t
  ne : ∀ p ∈ ps, ∀ ad a, A = some ad → p.A = some a → 0 < p.t.length → a.block ≠ ad.block
  lo : ∀ p ∈ ps, ∀ a, p.A = some a → 0 < p.t.length → B ≤ a.block
section
variable {w w' : World} {B : Nat} {e : TypeId} {m c : Nat} {A : Option Addr} {ps : List Tm}
theorem LmS.nil (h : Own w B e 1 A m c []) : LmS w B e A m c [] := ⟨h, (fun p hp => by cases hp), (fun p hp => by cases hp), (fun p hp => by cases hp)⟩
theorem LmS.keep (h : LmS w B e A m c ps) (hb : Below w.heap.size w w') : LmS w' B e A m c ps := ⟨h.own.keep hb, fun p hp => (h.rd p hp).below hb, h.ne, h.lo⟩
theorem LmS.alloc (h : LmS w B e A m c ps) (o : Obj) : LmS (w.alloc o) B e A m c ps := h.keep (below_size.alloc (Nat.le_refl _) o)
theorem LmS.len (h : LmS w B e A m c ps) : ps.length = m := by have := h.own.1; rw [List.length_map] at this; omega
theorem LmS.rdV (h : LmS w B e A m c ps) : RdV w 2 A m (ps.map Tm.it) := by
  refine ⟨?_, fun t ht => ?_, fun t ht u hu => ?_⟩
  · have h1 := h.own.wr.rd
    rw [List.map_map]
    exact h1
  · obtain ⟨p, hp, rfl⟩ := List.mem_map.1 ht
    exact h.rd p hp
  · obtain ⟨p, hp, rfl⟩ := List.mem_map.1 ht
    exact one_pairs p.t u hu
theorem rd2_block {A : Option Addr} {t : LT} {n : Nat} (h : Rd2 w A n t) {a : Addr} (ha : A = some a) (hn : 0 < n) : a.block < w.heap.size := by
  obtain ⟨a', e', h1, _⟩ := h.2 (by omega)
  rw [ha] at e'; injection e' with e'; subst e'; exact h1
/-- a term more: it is new since the world w0 -/
theorem LmS.push {w0 w1 : World} {g' cap : Nat} {p : Tm} {n' : Nat} (h : LmS w0 B e A m c ps) (hB : B ≤ w0.heap.size) (hb : Below w0.heap.size w0 w1) (hs : Wr w1 w0.heap.size w1.heap.size p.A (p.t.length * 2) (p.t.flatMap enc2))
    (hown : Own w' B e 1 (some ⟨g', 0, none⟩) n' cap ((ps ++ [p]).map Tm.hd)) (hk : ∀ b, b < w1.heap.size → (∀ ad', A = some ad' → ad'.block ≠ b) → w'.heap[b]? = w1.heap[b]?) (hg : A = some ⟨g', 0, none⟩ ∨ g' = w1.heap.size) (hz : w1.heap.size ≤ w'.heap.size) :
    LmS w' B e (some ⟨g', 0, none⟩) n' cap (ps ++ [p]) := by
  have h1 := h.keep hb
  have hz1 := hb.size
  have hold : ∀ t ∈ ps, ∀ a, t.A = some a → 0 < t.t.length → a.block < w0.heap.size := fun t ht a ha hn => rd2_block (h.rd t ht) ha hn
  have hnew : ∀ a, p.A = some a → 0 < p.t.length → w0.heap.size ≤ a.block ∧ a.block < w1.heap.size := fun a ha hn => by
    obtain ⟨a', e', h2, _, h3, _⟩ := hs.2 (by omega)
    rw [ha] at e'; injection e' with e'; subst e'; exact ⟨h2, h3⟩
  have hpr : Rd2 w1 p.A p.t.length p.t := hs.rd
  refine ⟨hown, fun t ht => ?_, fun t ht ad a had ha hn => ?_, fun t ht a ha hn => ?_⟩
  · rcases List.mem_append.1 ht with ht | ht
    · exact Rd.move (h1.rd t ht) (fun a hn ha => hk _ (Nat.lt_of_lt_of_le (hold t ht a ha (by omega)) hz1) fun ad' hA => (h.ne t ht ad' a hA ha (by omega)).symm) hz
    · rw [List.mem_singleton] at ht; subst ht
      exact Rd.move hpr (fun a hn ha => hk _ (hnew a ha (by omega)).2 fun ad' hA => by have := (h.own.block hA).2.1; have := (hnew a ha (by omega)).1; omega) hz
  · injection had with had; subst had
    rcases List.mem_append.1 ht with ht | ht
    · rcases hg with hg | hg
      · exact h.ne t ht _ a hg ha hn
      · have := hold t ht a ha hn; show a.block ≠ g'; omega
    · rw [List.mem_singleton] at ht; subst ht
      rcases hg with hg | hg
      · have h3 : g' < w0.heap.size := (h.own.block hg).2.1
        have h4 := (hnew a ha hn).1
        show a.block ≠ g'
        omega
      · have := (hnew a ha hn).2; show a.block ≠ g'; omega
  · rcases List.mem_append.1 ht with ht | ht
    · exact h.lo t ht a ha hn
    · rw [List.mem_singleton] at ht; subst ht
      have := (hnew a ha hn).1; omega
theorem LmS.from_ {B' : Nat} (h : LmS w B e A m c ps) (hB : B' ≤ B) : LmS w B' e A m c ps :=
  ⟨⟨h.own.1, h.own.2.imp id (fun ⟨g, cap, cur, a, b, r⟩ => ⟨g, cap, cur, a, Nat.le_trans hB b, r⟩)⟩, h.rd, h.ne, fun p hp a ha hn => Nat.le_trans hB (h.lo p hp a ha hn)⟩
/-- terms behind terms -/
theorem LmS.join {g' cap n' : Nat} {qs : List Tm} (h : LmS w B e A m c ps) (hq : ∀ q ∈ qs, Rd2 w q.A q.t.length q.t) (hqB : ∀ q ∈ qs, ∀ a, q.A = some a → 0 < q.t.length → B ≤ a.block) (hqn : ∀ q ∈ qs, ∀ ad a, A = some ad → q.A = some a → 0 < q.t.length → a.block ≠ ad.block)
    (hown : Own w' B e 1 (some ⟨g', 0, none⟩) n' cap ((ps ++ qs).map Tm.hd)) (hk : ∀ b, b < w.heap.size → (∀ ad', A = some ad' → ad'.block ≠ b) → w'.heap[b]? = w.heap[b]?) (hg : A = some ⟨g', 0, none⟩ ∨ g' = w.heap.size) (hz : w.heap.size ≤ w'.heap.size) :
    LmS w' B e (some ⟨g', 0, none⟩) n' cap (ps ++ qs) := by
  have hall : ∀ t ∈ ps ++ qs, Rd2 w t.A t.t.length t.t := fun t ht => (List.mem_append.1 ht).elim (h.rd t) (hq t)
  have hne : ∀ t ∈ ps ++ qs, ∀ ad a, A = some ad → t.A = some a → 0 < t.t.length → a.block ≠ ad.block := fun t ht => (List.mem_append.1 ht).elim (h.ne t) (hqn t)
  refine ⟨hown, fun t ht => ?_, fun t ht ad a had ha hn => ?_, fun t ht => (List.mem_append.1 ht).elim (h.lo t) (hqB t)⟩
  · exact Rd.move (hall t ht) (fun a hn ha => hk _ (rd2_block (hall t ht) ha (by omega)) fun ad' hA => (hne t ht ad' a hA ha (by omega)).symm) hz
  · injection had with had; subst had
    rcases hg with hg | hg
    · exact hne t ht _ a hg ha hn
    · have := rd2_block (hall t ht) ha hn; show a.block ≠ g'; omega
end
theorem sumV_it : ∀ (ps : List Tm), sumV (ps.map Tm.it) = ((ps.map Tm.t).flatten).length
  | [] => rfl
  | p :: l => by rw [List.map_cons, sumV, sumV_it l, List.map_cons, List.flatten_cons, List.length_append]; rfl
theorem flat_it : ∀ (ps : List Tm), (ps.map Tm.it).flatMap ItV.vs = ((ps.map Tm.t).flatten).flatMap enc2
  | [] => rfl
  | p :: l => by rw [List.map_cons, List.flatMap_cons, flat_it l, List.map_cons, List.flatten_cons, List.flatMap_append]; rfl
theorem appLm_enc (t : LT) (args : List LT) : (List.replicate args.length ((2 : Int), (0 : Int))).flatMap enc2 ++ t.flatMap enc2 ++ args.flatten.flatMap enc2 = (appLm t args).flatMap enc2 := by
  rw [appLm, List.flatMap_append, List.flatMap_append, List.append_assoc]
theorem appLm_len (t : LT) (args : List LT) : (appLm t args).length = args.length + t.length + args.flatten.length := by
  rw [appLm, List.length_append, List.length_append, List.length_replicate]; omega
theorem absLm_len (n : Nat) (t : LT) : (absLm n t).length = n + t.length := by rw [absLm, List.length_append, List.length_replicate]
theorem numB_len : ∀ n, (numB n).length = 2 * n + 1
  | 0 => rfl
  | n + 1 => by rw [numB, List.length_cons, List.length_cons, numB_len n]; omega
theorem numLm_len (n : Nat) : (numLm n).length = 2 * n + 3 := by rw [numLm, absLm_len, numB_len]; omega
end Go.Proofs.YtebjpmmgdkepjaaGreatDoor
/-
  The helpers of the laws at []Lam: sizes, copies, comparisons, marks.
-/
namespace Go.Proofs.YtebjpmmgdkepjaaGreatDoor
open Go.RowKit

end Go.Proofs.YtebjpmmgdkepjaaGreatDoor
/-
  Contracts of chapter 5 (machines with one tape): valid machines.
-/
namespace Go.Proofs.YtebjpmmgdkepjaaGreatDoor
open Go.RowKit

abbrev Rule3 := Int × Int × Int
def noneR : Rule3 := (0, 0, -1)
def ruleB (sy st : Int) (r : Rule3) : Bool := decide (r = noneR) || (inB r.1 0 (sy - 1) && (r.2.1 == 1 || r.2.1 == -1) && inB r.2.2 0 (st - 1))
def machB (sy st : Int) (rs : List Rule3) : Bool := inB sy 2 6 && inB st 1 1000 && ((rs.length : Int) == sy * st) && rs.all (ruleB sy st)
theorem mul_bd2 {a b : Int} (h1 : 2 ≤ a ∧ a ≤ 6) (h2 : 1 ≤ b ∧ b ≤ 1000) : 2 ≤ a * b ∧ a * b ≤ 6000 ∧ a * b = b * a := by
  have h3 : 2 * 1 ≤ a * b := Int.mul_le_mul h1.1 h2.1 (by omega) (by omega)
  have h4 : a * b ≤ 6 * 1000 := Int.mul_le_mul h1.2 h2.2 (by omega) (by omega)
  exact ⟨by omega, by omega, Int.mul_comm a b⟩

theorem rule_cases (a b c : Int) : ((a, b, c) = noneR ∧ a = 0 ∧ b = 0 ∧ c = -1) ∨ ((a, b, c) ≠ noneR ∧ ((a == 0) = false ∨ (a = 0 ∧ (b == 0) = false) ∨ (a = 0 ∧ b = 0 ∧ (c == -1) = false))) := by
  by_cases ha : a = 0
  · by_cases hb : b = 0
    · by_cases hc : c = -1
      · subst ha; subst hb; subst hc; exact .inl ⟨rfl, rfl, rfl, rfl⟩
      · exact .inr ⟨fun e => by injection e with _ e; injection e with _ e; exact hc e, .inr (.inr ⟨ha, hb, by simpa using hc⟩)⟩
    · exact .inr ⟨fun e => by injection e with _ e; injection e with e _; exact hb e, .inr (.inl ⟨ha, by simpa using hb⟩)⟩
  · exact .inr ⟨fun e => by injection e with e _; exact ha e, .inl (by simpa using ha)⟩
theorem chain4 (u1 u2 u3 _u4 : Bool) : u1 = false ∨ (u1 = true ∧ u2 = true) ∨ (u1 = true ∧ u2 = false ∧ u3 = true) ∨ (u1 = true ∧ u2 = false ∧ u3 = false) := by cases u1 <;> cases u2 <;> cases u3 <;> simp
/-- the first place where f is not true -/
def firstNot {α : Type} (f : α → Bool) : Nat → List α → Int
  | _, [] => -1
  | k, x :: l => if f x then firstNot f (k + 1) l else k
theorem firstNot_all {α : Type} (f : α → Bool) : ∀ (l : List α) (k : Nat), decide (0 ≤ firstNot f k l) = !l.all f
  | [], k => by simp [firstNot]
  | x :: l, k => by
    rw [firstNot, List.all_cons]
    cases hx : f x
    · simp
    · simp [firstNot_all f l (k + 1)]
end Go.Proofs.YtebjpmmgdkepjaaGreatDoor
/-
  Contracts of chapter 5: valid machines of the reference.
-/
namespace Go.Proofs.YtebjpmmgdkepjaaGreatDoor
open Go.RowKit

theorem boxes3 (w : World) (a b c : Array Value) (ta tb tc : TypeId) : Blk (((w.alloc (.cells a ta)).alloc (.cells b tb)).alloc (.cells c tc)) w.heap.size ta a ∧ Blk (((w.alloc (.cells a ta)).alloc (.cells b tb)).alloc (.cells c tc)) (w.heap.size + 1) tb b ∧ Blk (((w.alloc (.cells a ta)).alloc (.cells b tb)).alloc (.cells c tc)) (w.heap.size + 1 + 1) tc c := by
  refine ⟨((Blk.new w _ _).alloc _).alloc _, ?_, ?_⟩
  · have := (Blk.new (w.alloc (.cells a ta)) tb b).alloc (.cells c tc)
    rw [World.size_alloc] at this; exact this
  · have := Blk.new ((w.alloc (.cells a ta)).alloc (.cells b tb)) tc c
    rw [World.size_alloc, World.size_alloc] at this; exact this
/-- a machine behind a pointer -/
structure MachP (w : World) (g : Nat) (sy st : Int) (A : Option Addr) (n cp : Nat) (rs : List Rule3) : Prop where
  c0 : w.cell? ⟨g, 0, none⟩ = some (i64 sy)
  c1 : w.cell? ⟨g, 1, none⟩ = some (i64 st)
  c2 : w.cell? ⟨g, 2, none⟩ = some (.slice A n cp)
  rd : Rd3 w A n rs
theorem MachP.below {w w' : World} {g : Nat} {sy st : Int} {A : Option Addr} {n cp : Nat} {rs : List Rule3} (h : MachP w g sy st A n cp rs) (hb : Below w.heap.size w w') : MachP w' g sy st A n cp rs :=
  ⟨keepc hb h.c0, keepc hb h.c1, keepc hb h.c2, h.rd.below hb⟩

end Go.Proofs.YtebjpmmgdkepjaaGreatDoor
/-
  Contracts of chapter 5: valid configurations.
-/
namespace Go.Proofs.YtebjpmmgdkepjaaGreatDoor
open Go.RowKit

def lastB (xs : List Int) : Bool := xs.length == 0 || xs.getD (xs.length - 1) 0 != 0
def sideB (sy most : Int) (xs : List Int) : Bool := decide ((xs.length : Int) ≤ most) && allB 0 (sy - 1) xs && lastB xs
def confB (sy st s : Int) (xs ys : List Int) : Bool := inB s 0 (st - 1) && sideB sy 200 xs && sideB sy 200 ys
/-- a configuration behind a pointer -/
structure ConfP (w : World) (g : Nat) (s : Int) (A : Option Addr) (n cp : Nat) (xs : List Int) (A' : Option Addr) (n' cp' : Nat) (ys : List Int) : Prop where
  c0 : w.cell? ⟨g, 0, none⟩ = some (i64 s)
  c1 : w.cell? ⟨g, 1, none⟩ = some (.slice A n cp)
  c2 : w.cell? ⟨g, 2, none⟩ = some (.slice A' n' cp')
  rd : RdI w A n xs
  rd' : RdI w A' n' ys
theorem ConfP.below {w w' : World} {g : Nat} {s : Int} {A : Option Addr} {n cp : Nat} {xs : List Int} {A' : Option Addr} {n' cp' : Nat} {ys : List Int} (h : ConfP w g s A n cp xs A' n' cp' ys) (hb : Below w.heap.size w w') : ConfP w' g s A n cp xs A' n' cp' ys :=
  ⟨keepc hb h.c0, keepc hb h.c1, keepc hb h.c2, h.rd.below hb, h.rd'.below hb⟩
theorem ConfP.drewN {w : World} {g : Nat} {s : Int} {A : Option Addr} {n cp : Nat} {xs : List Int} {A' : Option Addr} {n' cp' : Nat} {ys : List Int} (h : ConfP w g s A n cp xs A' n' cp' ys) (m : Nat) : ConfP (w.drewN m) g s A n cp xs A' n' cp' ys := h.below (below_drewN below_size m)
theorem MachP.drewN {w : World} {g : Nat} {sy st : Int} {A : Option Addr} {n cp : Nat} {rs : List Rule3} (h : MachP w g sy st A n cp rs) (m : Nat) : MachP (w.drewN m) g sy st A n cp rs := h.below (below_drewN below_size m)
theorem getD_at {xs : List Int} {k : Nat} {x : Int} (h : xs[k]? = some x) : xs.getD k 0 = x := by rw [List.getD_eq_getElem?_getD, h]; rfl

end Go.Proofs.YtebjpmmgdkepjaaGreatDoor
/-
  Copies and reversals of lists of numbers, empty ones too; the head and the rest of a tape's side.
-/
namespace Go.Proofs.YtebjpmmgdkepjaaGreatDoor
open Go.RowKit

/-! ### Reversing in place -/
/-- the list while it is reversed: i swaps have been made -/
def RevAt (xs cs : List Int) (i : Nat) : Prop := cs.length = xs.length ∧ ∀ p, p < xs.length → cs[p]? = if p < i ∨ xs.length - i ≤ p then xs[xs.length - 1 - p]? else xs[p]?
theorem RevAt.start (xs : List Int) : RevAt xs xs 0 := ⟨rfl, fun p hp => by rw [if_neg (by omega)]⟩
theorem RevAt.done {xs cs : List Int} {i : Nat} (h : RevAt xs cs i) (hi : xs.length ≤ i + i + 1) : cs = xs.reverse := by
  apply List.ext_getElem?
  intro p
  by_cases hp : p < xs.length
  · rw [h.2 p hp, List.getElem?_reverse hp]
    split
    · rfl
    · congr 1; omega
  · rw [List.getElem?_eq_none (by rw [h.1]; omega), List.getElem?_eq_none (by rw [List.length_reverse]; omega)]
theorem RevAt.step {xs cs : List Int} {i j : Nat} {a b : Int} (h : RevAt xs cs i) (hj : j + i + 1 = xs.length) (hij : i < j) (ha : cs[i]? = some a) (hb : cs[j]? = some b) : RevAt xs ((cs.set i b).set j a) (i + 1) := by
  refine ⟨by rw [List.length_set, List.length_set]; exact h.1, fun p hp => ?_⟩
  have hl := h.1
  by_cases h1 : p = j
  · subst h1
    rw [List.getElem?_set_self (by rw [List.length_set]; omega), if_pos (by omega), ← ha, h.2 i (by omega), if_neg (by omega)]
    congr 1; omega
  · rw [List.getElem?_set_ne (fun e => h1 e.symm)]
    by_cases h2 : p = i
    · subst h2
      rw [List.getElem?_set_self (by omega), if_pos (by omega), ← hb, h.2 j (by omega), if_neg (by omega)]
      congr 1; omega
    · rw [List.getElem?_set_ne (fun e => h2 e.symm), h.2 p hp]
      by_cases h3 : p < i ∨ xs.length - i ≤ p
      · rw [if_pos h3, if_pos (by omega)]
      · rw [if_neg h3, if_neg (by omega)]
theorem keepR_drew {lo hi : Nat} {a w : World} (h : KeepR lo hi a w) : KeepR lo hi a w.drew := ⟨h.os, h.tape, h.output, h.size, h.block⟩
theorem drop_rev {ws : List Int} {k m : Nat} {x : Int} (hx : ws[k]? = some x) (hm : m = k + 1) : (ws.drop k).reverse = (ws.drop m).reverse ++ [x] := by rw [drop_at hx, List.reverse_cons, hm]
/-- a part of a list that is there -/
def BeyOut (n : Nat) (xs : List Int) (w : World) (e : Ending) (w' : World) : Prop := ∃ A' m cap, e = .returned (.slice A' m cap) ∧ m ≤ n ∧ RdI w A' m xs ∧ w = w'
end Go.Proofs.YtebjpmmgdkepjaaGreatDoor
/-
  The helpers of the laws at slices, in the form of rows.
-/
namespace Go.Proofs.YtebjpmmgdkepjaaGreatDoor
open Go.RowKit

theorem RdSU.belowB {w w' : World} {B : Nat} {ss : List Seg} (h : RdSU w B ss) (hb : Below B w w') : RdSU w' B ss := fun s hs => ⟨(h s hs).1.belowB (h s hs).2 hb, (h s hs).2⟩
theorem toInt64S_s (A : Option Addr) (n c : Nat) (xs : List Int) (w : World) (h : RdS w [sgI A n xs]) (hn : n ≤ 1000000000) :
    Calls Tryz.prog 18 #[.slice A n c] w fun e w' => ∃ g, e = .returned (.slice (some ⟨g, 0, none⟩) n n) ∧ WrS w' w.heap.size w'.heap.size [sgI (some ⟨g, 0, none⟩) n xs] ∧ Below w.heap.size w w' :=
  (toInt64S_c A n c xs w h.head (by omega)).mono fun _ _ ⟨he, hw, hb⟩ => ⟨_, he, WrS.one hw, hb⟩
theorem eqInt64S_s (A : Option Addr) (n c : Nat) (xs : List Int) (A' : Option Addr) (n' c' : Nat) (w : World) (h : RdS w [sgI A n xs]) (h' : RdS w [sgI A' n' xs]) (hn : n ≤ 1000000000) :
    Calls Tryz.prog 21 #[.slice A n c, .slice A' n' c'] w fun e w' => e = .returned (.bool true) ∧ Below w.heap.size w w' := eqInt64S_t A A' n n' c c' xs w h.head h'.head (by omega)
end Go.Proofs.YtebjpmmgdkepjaaGreatDoor
/-
  The helpers of the laws at [][]int64, in the form of rows.
-/
namespace Go.Proofs.YtebjpmmgdkepjaaGreatDoor
open Go.RowKit

/-- one slice of numbers, as an element -/
structure It where
  A : Option Addr
  n : Nat
  c : Nat
  xs : List Int
def hdI (t : It) : Value := .slice t.A t.n t.c
def bodyI (t : It) : Seg := sgI t.A t.n t.xs
def sgII (A : Option Addr) (n : Nat) (its : List It) : List Seg := ⟨A, n, its.map hdI⟩ :: its.map bodyI
def sumN : List It → Nat
  | [] => 0
  | t :: l => t.n + sumN l
theorem sumN_app : ∀ a b : List It, sumN (a ++ b) = sumN a + sumN b
  | [], b => by simp [sumN]
  | t :: a, b => by simp only [List.cons_append, sumN, sumN_app a b]; omega
theorem sumN_take {its : List It} {k : Nat} {t : It} (h : its[k]? = some t) : sumN (its.take (k + 1)) = sumN (its.take k) + t.n := by rw [take_at h, sumN_app]; simp [sumN]
theorem sumN_le {its : List It} {k : Nat} : sumN (its.take k) ≤ sumN its := by
  have := sumN_app (its.take k) (its.drop k)
  rw [List.take_append_drop] at this; omega
theorem sumN_mem {its : List It} {t : It} (h : t ∈ its) : t.n ≤ sumN its := by
  obtain ⟨k, hk⟩ := List.mem_iff_getElem?.1 h
  have h1 := sumN_take hk
  have h2 := sumN_le (its := its) (k := k + 1)
  omega
/-- .. and marked -/
def mkI : List It → Int → List Seg
  | [], _ => []
  | t :: l, k => ⟨t.A, t.n, (marks k t.n).map i64⟩ :: mkI l (k + t.n)
def mgII (A : Option Addr) (n : Nat) (its : List It) (k0 : Int) : List Seg := ⟨A, n, its.map hdI⟩ :: mkI its k0
theorem mkI_app : ∀ (a b : List It) (k : Int), mkI (a ++ b) k = mkI a k ++ mkI b (k + (sumN a : Nat))
  | [], b, k => by simp [mkI, sumN]
  | t :: a, b, k => by simp only [List.cons_append, mkI, sumN, mkI_app a b]; congr 3; omega

section
variable {w w' : World} {A : Option Addr} {n : Nat} {its : List It}
theorem RdII.len (h : RdS w (sgII A n its)) : its.length = n := by have := h.head.1; simpa using this
theorem RdII.at_ {k : Nat} (h : RdS w (sgII A n its)) (hk : k < n) : ∃ ad t, A = some ad ∧ ad.block < w.heap.size ∧ its[k]? = some t ∧ w.cell? (ad.add k) = some (.slice t.A t.n t.c) ∧ RdS w [sgI t.A t.n t.xs] := by
  have hl := RdII.len h
  have ht : its[k]? = some its[k] := List.getElem?_eq_getElem (by omega)
  obtain ⟨ad, v, e, hb, hv, hc⟩ := h.head.at_ hk
  rw [List.getElem?_map, ht] at hv
  injection hv with hv; subst hv
  refine ⟨ad, _, e, hb, ht, hc, RdS.one ?_⟩
  exact h.tail (bodyI its[k]) (List.mem_map_of_mem (List.getElem_mem (by omega)))
theorem RdII.size {t : It} (h : RdS w (sgII A n its)) (ht : t ∈ its) : t.xs.length = t.n := by
  have := (h.tail (bodyI t) (List.mem_map_of_mem ht)).1
  simpa [bodyI, sgI] using this
end

theorem hi_of {w w' : World} {A A' : Option Addr} {n n' B : Nat} {its js : List It} (h : RdS w (sgII A n its)) (h' : RdS w' (sgII A' n' js)) (hx : js.map It.xs = its.map It.xs) (hi : ∀ t ∈ its, t.n ≤ B) : ∀ t ∈ js, t.n ≤ B := by
  intro t ht
  have h1 := RdII.size h' ht
  have h2 : t.xs ∈ its.map It.xs := by rw [← hx]; exact List.mem_map_of_mem ht
  obtain ⟨u, hu, e⟩ := List.mem_map.1 h2
  have h3 := RdII.size h hu
  have := hi u hu
  rw [← h1, ← e, h3]; exact this
/-- a row whose first cells are known, the others zero -/
def fillL (vs : List Value) (z : Value) (m : Nat) : Array Value := (vs ++ List.replicate m z).toArray
theorem fillL_at (vs : List Value) (z : Value) (m : Nat) : (fillL vs z (m + 1))[vs.length]? = some z := by
  unfold fillL
  rw [List.getElem?_toArray, List.getElem?_append_right (Nat.le_refl _), Nat.sub_self]; simp
theorem fillL_all (vs : List Value) (z : Value) (n : Nat) (h : vs.length = n) : (fillL vs z 0).toList.take n = vs := by subst h; simp [fillL]
theorem fillL_set (vs : List Value) (z v : Value) (m : Nat) : (fillL vs z (m + 1)).setIfInBounds vs.length v = fillL (vs ++ [v]) z m := by
  unfold fillL
  rw [List.setIfInBounds_toArray, List.set_append_right _ _ (Nat.le_refl _), Nat.sub_self, List.replicate_succ, List.set_cons_zero, List.append_assoc]
  rfl
end Go.Proofs.YtebjpmmgdkepjaaGreatDoor
/-
  append of a slice of numbers that may be empty; several slices of the call's own that grow side by side.
-/
namespace Go.Proofs.YtebjpmmgdkepjaaGreatDoor
open Go.RowKit

/-- append of a slice of numbers to a slice of the call's own -/
theorem wp_appA {ops : Array Oper} {rest : List Oper} {o : Oper} {a : Act} {w : World} {Q : Exit → Act → World → Prop} (hgd : o.guard = none) (s x : Operand)
    (ho : o.op = .call { callee := .builtin .append, args := #[s, x], argTypes := #[29, 29] })
    (B : Nat) (A : Option Addr) (n c : Nat) (vs : List Value) (hs : a.eval s = .slice A n c) (hown : Own w B 2 1 A n c vs)
    (X : Option Addr) (m c' : Nat) (xs : List Int) (hx : a.eval x = .slice X m c') (hX : RdI w X m xs) (hlen : n + m ≤ 10000000000) (hB : B ≤ w.heap.size)
    (h : ∀ A' cap w', Own w' B 2 1 A' (n + m) cap (vs ++ xs.map i64) → Below B w w' → (∀ b, b < w.heap.size → (∀ ad', A = some ad' → ad'.block ≠ b) → w'.heap[b]? = w.heap[b]?) → (A' = A ∨ A' = some ⟨w.heap.size, 0, none⟩) → w.heap.size ≤ w'.heap.size →
      wpList Tryz.prog ops Q rest (a.put o.dst (.slice A' (n + m) cap)) w') : wpList Tryz.prog ops Q (o :: rest) a w := by
  by_cases h0 : 0 < m
  · obtain ⟨hl, hc⟩ := hX
    obtain ⟨ad, rfl, hab, hcs⟩ := hc h0
    refine wp_app hgd s x 29 2 (.int .i64 0) 1 8 ho Tryz.underlying29 info_i64 rfl (by omega) B A n c vs hs hown ad m c' (xs.map i64) hx h0 (by rw [hl, Nat.mul_one]) hcs (by intro u hu; obtain ⟨y, _, rfl⟩ := List.mem_map.1 hu; rfl) (by omega) (by omega) hB ?_
    intro g' cap w2 own2 hb2 hk2 hg2 hz2
    exact h _ cap w2 own2 hb2 hk2 (hg2.elim (fun e => .inl e.symm) (fun e => .inr (by rw [e]))) hz2
  · obtain rfl : m = 0 := by omega
    have hws : xs = [] := List.length_eq_zero_iff.1 (by have := hX.1; simpa using this)
    subst hws
    refine wp_app0 hgd s x 29 2 (.int .i64 0) 1 8 ho Tryz.underlying29 info_i64 A n c hs hown.cap X c' hx ?_
    exact h A c w (by simpa using hown) ⟨rfl, rfl, rfl, Nat.le_refl _, fun _ _ => rfl⟩ (fun _ _ _ => rfl) (.inl rfl) (Nat.le_refl _)

/-- the blocks of a slice of the call's own and of its rows -/
def blks (A : Option Addr) (ss : List Seg) (b : Nat) : Prop := (∃ ad, A = some ad ∧ ad.block = b) ∨ ∃ s ∈ ss, ∃ a, s.A = some a ∧ 0 < s.n ∧ a.block = b
def Apt (X Y : Nat → Prop) : Prop := ∀ b, X b → Y b → False
section
variable {w w' : World} {B : Nat} {e : TypeId} {size n c : Nat} {A : Option Addr} {vs : List Value} {ss : List Seg}
theorem Apt.symm {X Y : Nat → Prop} (h : Apt X Y) : Apt Y X := fun b hy hx => h b hx hy
theorem Apt.grow {X X' Y : Nat → Prop} {l : Nat} (h : Apt X Y) (hX : ∀ b, X' b → X b ∨ l ≤ b) (hY : ∀ b, Y b → b < l) : Apt X' Y := fun b hx hy => by
  rcases hX b hx with h1 | h1
  · exact h b h1 hy
  · have := hY b hy; omega
theorem OwnS.lt (h : OwnS w B e size A n c vs ss) {b : Nat} (hb : blks A ss b) : B ≤ b ∧ b < w.heap.size := by
  rcases hb with ⟨ad, ha, rfl⟩ | ⟨s, hs, a, ha, hn, rfl⟩
  · exact ⟨(h.own.block ha).1, (h.own.block ha).2.1⟩
  · obtain ⟨a', e', h1, _, h3, _⟩ := (h.wrs.each s hs).2 hn
    rw [ha] at e'; injection e' with e'; subst e'; exact ⟨h1, h3⟩
theorem OwnS.moveF (h : OwnS w B e size A n c vs ss) (hk : ∀ b, blks A ss b → w'.heap[b]? = w.heap[b]?) (hs : w.heap.size ≤ w'.heap.size) : OwnS w' B e size A n c vs ss :=
  ⟨h.own.move fun ad ha => hk _ (.inl ⟨ad, ha, rfl⟩), ⟨fun s hs' => (h.wrs.each s hs').move (fun ad hn e => hk _ (.inr ⟨s, hs', ad, e, hn, rfl⟩)) hs hs, h.wrs.apart⟩, h.ne⟩
theorem blks_nil {b : Nat} (hb : blks none [] b) : False := by
  rcases hb with ⟨_, h, _⟩ | ⟨_, h, _⟩
  · cases h
  · cases h
theorem blks_own {A A' : Option Addr} {l b : Nat} (hA : A' = A ∨ A' = some ⟨l, 0, none⟩) (hb : blks A' ss b) : blks A ss b ∨ l ≤ b := by
  rcases hb with ⟨ad, ha, rfl⟩ | h
  · rcases hA with hA | hA
    · exact .inl (.inl ⟨ad, by rw [← hA]; exact ha, rfl⟩)
    · rw [hA] at ha; injection ha with ha; subst ha; exact .inr (Nat.le_refl _)
  · exact .inl (.inr h)
theorem blks_push {A A' : Option Addr} {s : Seg} {l b : Nat} (hA : A' = A ∨ ∃ g, A' = some ⟨g, 0, none⟩ ∧ l ≤ g) (hs : ∀ a, s.A = some a → 0 < s.n → l ≤ a.block) (hb : blks A' (ss ++ [s]) b) : blks A ss b ∨ l ≤ b := by
  rcases hb with ⟨ad, ha, rfl⟩ | ⟨t, ht, a, ha, hn, rfl⟩
  · rcases hA with hA | ⟨g, hA, hg⟩
    · exact .inl (.inl ⟨ad, by rw [← hA]; exact ha, rfl⟩)
    · rw [hA] at ha; injection ha with ha; subst ha; exact .inr hg
  · rcases List.mem_append.1 ht with ht | ht
    · exact .inl (.inr ⟨t, ht, a, ha, hn, rfl⟩)
    · rw [List.mem_singleton] at ht; subst ht; exact .inr (hs a ha hn)
/-- all rows of two, together -/
theorem OwnS.both {A' : Option Addr} {e' : TypeId} {size' n' c' : Nat} {vs' : List Value} {ss' : List Seg} (h : OwnS w B e size A n c vs ss) (h' : OwnS w B e' size' A' n' c' vs' ss') (ha : Apt (blks A ss) (blks A' ss')) :
    WrS w B w.heap.size ((⟨A, n * size, vs⟩ :: ss) ++ (⟨A', n' * size', vs'⟩ :: ss')) := by
  refine ⟨fun s hs => (List.mem_append.1 hs).elim (fun h1 => h.wrS.each s h1) (fun h1 => h'.wrS.each s h1), List.pairwise_append.2 ⟨h.wrS.apart, h'.wrS.apart, ?_⟩⟩
  have key : ∀ (A : Option Addr) (ss : List Seg) (k : Nat) (vs : List Value) (s : Seg), s ∈ (⟨A, k, vs⟩ :: ss : List Seg) → ∀ a, s.A = some a → 0 < s.n → blks A ss a.block := fun A ss k vs s hs a e hn => by
    rcases List.mem_cons.1 hs with rfl | hs
    · exact .inl ⟨a, e, rfl⟩
    · exact .inr ⟨s, hs, a, e, hn, rfl⟩
  intro s hs t ht a b e1 e2 hn hm hab
  exact ha _ (key _ _ _ _ s hs a e1 hn) (by rw [hab]; exact key _ _ _ _ t ht b e2 hm)
end
end Go.Proofs.YtebjpmmgdkepjaaGreatDoor
