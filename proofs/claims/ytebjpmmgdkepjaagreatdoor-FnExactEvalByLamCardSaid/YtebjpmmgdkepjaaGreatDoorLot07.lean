/-
  Parts of the proof, one behind the other: contracts of the functions that the law reaches, and plain laws.
-/
import Derived.Laws.StructEq
import Derived.Deep.Upon
import Derived.Test.YtebjpmmgdkepjaaGreatDoorLot03
import Derived.Test.YtebjpmmgdkepjaaGreatDoorLot05
import Derived.Test.YtebjpmmgdkepjaaGreatDoorLot06
/-
  Lists of terms in memory: a slice of the call's own whose elements hold terms. Nothing of the program.
-/
namespace Go.Proofs.YtebjpmmgdkepjaaGreatDoor
open Go.RowKit

/-- a term in memory -/
structure Tm where
  A : Option Addr
  c : Nat
  t : LT
def Tm.hd (p : Tm) : Value := .slice p.A p.t.length p.c
def Tm.it (p : Tm) : ItV := ⟨p.A, p.t.length, p.c, p.t.flatMap enc2⟩
/-- what a function gives that makes a term -/
def TmOut (t : LT) (n : Nat) (w : World) (e : Ending) (w' : World) : Prop := ∃ A c, e = .returned (.slice A n c) ∧ t.length = n ∧ Wr w' w.heap.size w'.heap.size A (n * 2) (t.flatMap enc2) ∧ n ≤ c ∧ Below w.heap.size w w'
structure LmS (w : World) (B : Nat) (e : TypeId) (A : Option Addr) (m c : Nat) (ps : List Tm) : Prop where
  own : Own w B e 1 A m c (ps.map Tm.hd)
  rd : ∀ p ∈ ps, Rd2 w p.A p.t.length p.t
  ne : ∀ p ∈ ps, ∀ ad a, A = some ad → p.A = some a → 0 < p.t.length → a.block ≠ ad.block
  lo : ∀ p ∈ ps, ∀ a, p.A = some a → 0 < p.t.length → B ≤ a.block
section
variable {w w' : World} {B : Nat} {e : TypeId} {m c : Nat} {A : Option Addr} {ps : List Tm}
theorem LmS.nil (h : Own w B e 1 A m c []) : LmS w B e A m c [] := ⟨h, (fun p hp => by cases hp), (fun p hp => by cases hp), (fun p hp => by cases hp)⟩
theorem LmS.keep (h : LmS w B e A m c ps) (hb : Below w.heap.size w w') : LmS w' B e A m c ps := ⟨h.own.keep hb, fun p hp => (h.rd p hp).below hb, h.ne, h.lo⟩
theorem LmS.alloc (h : LmS w B e A m c ps) (o : Obj) : LmS (w.alloc o) B e A m c ps := h.keep (below_size.alloc (Nat.le_refl _) o)
theorem LmS.len (h : LmS w B e A m c ps) : ps.length = m := by have := h.own.1; rw [List.length_map] at this; omega
theorem LmS.rdV (h : LmS w B e A m c ps) : RdV w 2 A m (ps.map Tm.it) := by
  refine ⟨?_, fun t ht => ?_, fun t ht u hu => ?_⟩
  · have h1 := h.own.wr.rd
    rw [List.map_map]
    exact h1
  · obtain ⟨p, hp, rfl⟩ := List.mem_map.1 ht
    exact h.rd p hp
  · obtain ⟨p, hp, rfl⟩ := List.mem_map.1 ht
    exact one_pairs p.t u hu
theorem rd2_block {A : Option Addr} {t : LT} {n : Nat} (h : Rd2 w A n t) {a : Addr} (ha : A = some a) (hn : 0 < n) : a.block < w.heap.size := by
  obtain ⟨a', e', h1, _⟩ := h.2 (by omega)
  rw [ha] at e'; injection e' with e'; subst e'; exact h1
/-- a term more: it is new since the world w0 -/
theorem LmS.push {w0 w1 : World} {g' cap : Nat} {p : Tm} {n' : Nat} (h : LmS w0 B e A m c ps) (hB : B ≤ w0.heap.size) (hb : Below w0.heap.size w0 w1) (hs : Wr w1 w0.heap.size w1.heap.size p.A (p.t.length * 2) (p.t.flatMap enc2))
    (hown : Own w' B e 1 (some ⟨g', 0, none⟩) n' cap ((ps ++ [p]).map Tm.hd)) (hk : ∀ b, b < w1.heap.size → (∀ ad', A = some ad' → ad'.block ≠ b) → w'.heap[b]? = w1.heap[b]?) (hg : A = some ⟨g', 0, none⟩ ∨ g' = w1.heap.size) (hz : w1.heap.size ≤ w'.heap.size) :
    LmS w' B e (some ⟨g', 0, none⟩) n' cap (ps ++ [p]) := by
  have h1 := h.keep hb
  have hz1 := hb.size
  have hold : ∀ t ∈ ps, ∀ a, t.A = some a → 0 < t.t.length → a.block < w0.heap.size := fun t ht a ha hn => rd2_block (h.rd t ht) ha hn
  have hnew : ∀ a, p.A = some a → 0 < p.t.length → w0.heap.size ≤ a.block ∧ a.block < w1.heap.size := fun a ha hn => by
    obtain ⟨a', e', h2, _, h3, _⟩ := hs.2 (by omega)
    rw [ha] at e'; injection e' with e'; subst e'; exact ⟨h2, h3⟩
  have hpr : Rd2 w1 p.A p.t.length p.t := hs.rd
  refine ⟨hown, fun t ht => ?_, fun t ht ad a had ha hn => ?_, fun t ht a ha hn => ?_⟩
  · rcases List.mem_append.1 ht with ht | ht
    · exact Rd.move (h1.rd t ht) (fun a hn ha => hk _ (Nat.lt_of_lt_of_le (hold t ht a ha (by omega)) hz1) fun ad' hA => (h.ne t ht ad' a hA ha (by omega)).symm) hz
    · rw [List.mem_singleton] at ht; subst ht
      exact Rd.move hpr (fun a hn ha => hk _ (hnew a ha (by omega)).2 fun ad' hA => by have := (h.own.block hA).2.1; have := (hnew a ha (by omega)).1; omega) hz
  · injection had with had; subst had
    rcases List.mem_append.1 ht with ht | ht
    · rcases hg with hg | hg
      · exact h.ne t ht _ a hg ha hn
      · have := hold t ht a ha hn; show a.block ≠ g'; omega
    · rw [List.mem_singleton] at ht; subst ht
      rcases hg with hg | hg
      · have h3 : g' < w0.heap.size := (h.own.block hg).2.1
        have h4 := (hnew a ha hn).1
        show a.block ≠ g'
        omega
      · have := (hnew a ha hn).2; show a.block ≠ g'; omega
  · rcases List.mem_append.1 ht with ht | ht
    · exact h.lo t ht a ha hn
    · rw [List.mem_singleton] at ht; subst ht
      have := (hnew a ha hn).1; omega
theorem LmS.from_ {B' : Nat} (h : LmS w B e A m c ps) (hB : B' ≤ B) : LmS w B' e A m c ps :=
  ⟨⟨h.own.1, h.own.2.imp id (fun ⟨g, cap, cur, a, b, r⟩ => ⟨g, cap, cur, a, Nat.le_trans hB b, r⟩)⟩, h.rd, h.ne, fun p hp a ha hn => Nat.le_trans hB (h.lo p hp a ha hn)⟩
/-- terms behind terms -/
theorem LmS.join {g' cap n' : Nat} {qs : List Tm} (h : LmS w B e A m c ps) (hq : ∀ q ∈ qs, Rd2 w q.A q.t.length q.t) (hqB : ∀ q ∈ qs, ∀ a, q.A = some a → 0 < q.t.length → B ≤ a.block) (hqn : ∀ q ∈ qs, ∀ ad a, A = some ad → q.A = some a → 0 < q.t.length → a.block ≠ ad.block)
    (hown : Own w' B e 1 (some ⟨g', 0, none⟩) n' cap ((ps ++ qs).map Tm.hd)) (hk : ∀ b, b < w.heap.size → (∀ ad', A = some ad' → ad'.block ≠ b) → w'.heap[b]? = w.heap[b]?) (hg : A = some ⟨g', 0, none⟩ ∨ g' = w.heap.size) (hz : w.heap.size ≤ w'.heap.size) :
    LmS w' B e (some ⟨g', 0, none⟩) n' cap (ps ++ qs) := by
  have hall : ∀ t ∈ ps ++ qs, Rd2 w t.A t.t.length t.t := fun t ht => (List.mem_append.1 ht).elim (h.rd t) (hq t)
  have hne : ∀ t ∈ ps ++ qs, ∀ ad a, A = some ad → t.A = some a → 0 < t.t.length → a.block ≠ ad.block := fun t ht => (List.mem_append.1 ht).elim (h.ne t) (hqn t)
  refine ⟨hown, fun t ht => ?_, fun t ht ad a had ha hn => ?_, fun t ht => (List.mem_append.1 ht).elim (h.lo t) (hqB t)⟩
  · exact Rd.move (hall t ht) (fun a hn ha => hk _ (rd2_block (hall t ht) ha (by omega)) fun ad' hA => (hne t ht ad' a hA ha (by omega)).symm) hz
  · injection had with had; subst had
    rcases hg with hg | hg
    · exact hne t ht _ a hg ha hn
    · have := rd2_block (hall t ht) ha hn; show a.block ≠ g'; omega
end
theorem sumV_it : ∀ (ps : List Tm), sumV (ps.map Tm.it) = ((ps.map Tm.t).flatten).length
  | [] => rfl
  | p :: l => by rw [List.map_cons, sumV, sumV_it l, List.map_cons, List.flatten_cons, List.length_append]; rfl
theorem flat_it : ∀ (ps : List Tm), (ps.map Tm.it).flatMap ItV.vs = ((ps.map Tm.t).flatten).flatMap enc2
  | [] => rfl
  | p :: l => by rw [List.map_cons, List.flatMap_cons, flat_it l, List.map_cons, List.flatten_cons, List.flatMap_append]; rfl
theorem appLm_enc (t : LT) (args : List LT) : (List.replicate args.length ((2 : Int), (0 : Int))).flatMap enc2 ++ t.flatMap enc2 ++ args.flatten.flatMap enc2 = (appLm t args).flatMap enc2 := by
  rw [appLm, List.flatMap_append, List.flatMap_append, List.append_assoc]
theorem appLm_len (t : LT) (args : List LT) : (appLm t args).length = args.length + t.length + args.flatten.length := by
  rw [appLm, List.length_append, List.length_append, List.length_replicate]; omega
theorem absLm_len (n : Nat) (t : LT) : (absLm n t).length = n + t.length := by rw [absLm, List.length_append, List.length_replicate]
theorem numB_len : ∀ n, (numB n).length = 2 * n + 1
  | 0 => rfl
  | n + 1 => by rw [numB, List.length_cons, List.length_cons, numB_len n]; omega
theorem numLm_len (n : Nat) : (numLm n).length = 2 * n + 3 := by rw [numLm, absLm_len, numB_len]; omega
end Go.Proofs.YtebjpmmgdkepjaaGreatDoor
/-
  A slice of the call's own, cut down. Nothing of the program.
-/
namespace Go.Proofs.YtebjpmmgdkepjaaGreatDoor
open Go.RowKit

theorem Own.cut {w : World} {B k n m c : Nat} {e : TypeId} {A : Option Addr} {vs : List Value} (h : Own w B e k A n c vs) (hm : m ≤ n) (hA : A ≠ none) : Own w B e k A m c (vs.take (m * k)) := by
  refine ⟨by rw [List.length_take, h.1, Nat.min_eq_left (Nat.mul_le_mul_right k hm)], ?_⟩
  rcases h.2 with ⟨hv, h0⟩ | ⟨g, cap, cur, hv, hB, hh, h1, h2, h3, h4⟩
  · injection hv with ha; exact absurd ha hA
  · injection hv with ha _ hc
    subst hc
    exact .inr ⟨g, c, cur, by rw [ha], hB, hh, by omega, h2, h3, by rw [← h4, List.take_take, Nat.min_eq_left (Nat.mul_le_mul_right k hm)]⟩
theorem Own.fullK {w : World} {B k m : Nat} {e : TypeId} {vs : List Value} {cs : Array Value} (hB : B ≤ w.heap.size) (hv : cs.toList = vs) (hl : vs.length = m * k) (hm : m ≤ 1000000) : Own (w.alloc (.cells cs e)) B e k (some ⟨w.heap.size, 0, none⟩) m m vs := by
  refine ⟨hl, .inr ⟨w.heap.size, m, cs, rfl, hB, heap_alloc_new w _, Nat.le_refl _, by simp [maxLen]; omega, ?_, ?_⟩⟩
  · rw [← Array.length_toList, hv, hl]
  · rw [hv]; exact List.take_of_length_le (by rw [hl]; exact Nat.le_refl _)
theorem Own.widen {w : World} {B B' : Nat} {e : TypeId} {size n c : Nat} {A : Option Addr} {vs : List Value} (h : Own w B e size A n c vs) (hB : B' ≤ B) : Own w B' e size A n c vs := by
  refine ⟨h.1, ?_⟩
  rcases h.2 with h1 | ⟨g, cap, cur, hv, h2, h3⟩
  · exact .inl h1
  · exact .inr ⟨g, cap, cur, hv, Nat.le_trans hB h2, h3⟩
theorem Rd.atBlk {w w' : World} {A : Option Addr} {n : Nat} {vs : List Value} (h : Rd w A n vs) (hk : ∀ a, A = some a → 0 < n → w'.heap[a.block]? = w.heap[a.block]?) (hs : w.heap.size ≤ w'.heap.size) : Rd w' A n vs :=
  ⟨h.1, fun hn => by
    obtain ⟨ad, e, hlt, hc⟩ := h.2 hn
    exact ⟨ad, e, Nat.lt_of_lt_of_le hlt hs, fun j u hu => (World.cell?_of_block (a := ad.add j) (by rw [block_add]; exact hk ad e hn)).trans (hc j u hu)⟩⟩
end Go.Proofs.YtebjpmmgdkepjaaGreatDoor
/-
  The helpers of the laws at []Lam: sizes, copies, comparisons, marks.
-/
namespace Go.Proofs.YtebjpmmgdkepjaaGreatDoor
open Go.RowKit

end Go.Proofs.YtebjpmmgdkepjaaGreatDoor
/-
  Contracts of chapter 5 (machines with one tape): valid machines.
-/
namespace Go.Proofs.YtebjpmmgdkepjaaGreatDoor
open Go.RowKit

abbrev Rule3 := Int × Int × Int
def noneR : Rule3 := (0, 0, -1)
def ruleB (sy st : Int) (r : Rule3) : Bool := decide (r = noneR) || (inB r.1 0 (sy - 1) && (r.2.1 == 1 || r.2.1 == -1) && inB r.2.2 0 (st - 1))
def machB (sy st : Int) (rs : List Rule3) : Bool := inB sy 2 6 && inB st 1 1000 && ((rs.length : Int) == sy * st) && rs.all (ruleB sy st)
theorem mul_bd2 {a b : Int} (h1 : 2 ≤ a ∧ a ≤ 6) (h2 : 1 ≤ b ∧ b ≤ 1000) : 2 ≤ a * b ∧ a * b ≤ 6000 ∧ a * b = b * a := by
  have h3 : 2 * 1 ≤ a * b := Int.mul_le_mul h1.1 h2.1 (by omega) (by omega)
  have h4 : a * b ≤ 6 * 1000 := Int.mul_le_mul h1.2 h2.2 (by omega) (by omega)
  exact ⟨by omega, by omega, Int.mul_comm a b⟩

theorem rule_cases (a b c : Int) : ((a, b, c) = noneR ∧ a = 0 ∧ b = 0 ∧ c = -1) ∨ ((a, b, c) ≠ noneR ∧ ((a == 0) = false ∨ (a = 0 ∧ (b == 0) = false) ∨ (a = 0 ∧ b = 0 ∧ (c == -1) = false))) := by
  by_cases ha : a = 0
  · by_cases hb : b = 0
    · by_cases hc : c = -1
      · subst ha; subst hb; subst hc; exact .inl ⟨rfl, rfl, rfl, rfl⟩
      · exact .inr ⟨fun e => by injection e with _ e; injection e with _ e; exact hc e, .inr (.inr ⟨ha, hb, by simpa using hc⟩)⟩
    · exact .inr ⟨fun e => by injection e with _ e; injection e with e _; exact hb e, .inr (.inl ⟨ha, by simpa using hb⟩)⟩
  · exact .inr ⟨fun e => by injection e with e _; exact ha e, .inl (by simpa using ha)⟩
theorem chain4 (u1 u2 u3 _u4 : Bool) : u1 = false ∨ (u1 = true ∧ u2 = true) ∨ (u1 = true ∧ u2 = false ∧ u3 = true) ∨ (u1 = true ∧ u2 = false ∧ u3 = false) := by cases u1 <;> cases u2 <;> cases u3 <;> simp
/-- the first place where f is not true -/
def firstNot {α : Type} (f : α → Bool) : Nat → List α → Int
  | _, [] => -1
  | k, x :: l => if f x then firstNot f (k + 1) l else k
theorem firstNot_all {α : Type} (f : α → Bool) : ∀ (l : List α) (k : Nat), decide (0 ≤ firstNot f k l) = !l.all f
  | [], k => by simp [firstNot]
  | x :: l, k => by
    rw [firstNot, List.all_cons]
    cases hx : f x
    · simp
    · simp [firstNot_all f l (k + 1)]
end Go.Proofs.YtebjpmmgdkepjaaGreatDoor
/-
  Contracts of chapter 5: valid machines of the reference.
-/
namespace Go.Proofs.YtebjpmmgdkepjaaGreatDoor
open Go.RowKit

theorem boxes3 (w : World) (a b c : Array Value) (ta tb tc : TypeId) : Blk (((w.alloc (.cells a ta)).alloc (.cells b tb)).alloc (.cells c tc)) w.heap.size ta a ∧ Blk (((w.alloc (.cells a ta)).alloc (.cells b tb)).alloc (.cells c tc)) (w.heap.size + 1) tb b ∧ Blk (((w.alloc (.cells a ta)).alloc (.cells b tb)).alloc (.cells c tc)) (w.heap.size + 1 + 1) tc c := by
  refine ⟨((Blk.new w _ _).alloc _).alloc _, ?_, ?_⟩
  · have := (Blk.new (w.alloc (.cells a ta)) tb b).alloc (.cells c tc)
    rw [World.size_alloc] at this; exact this
  · have := Blk.new ((w.alloc (.cells a ta)).alloc (.cells b tb)) tc c
    rw [World.size_alloc, World.size_alloc] at this; exact this
/-- a machine behind a pointer -/
structure MachP (w : World) (g : Nat) (sy st : Int) (A : Option Addr) (n cp : Nat) (rs : List Rule3) : Prop where
  c0 : w.cell? ⟨g, 0, none⟩ = some (i64 sy)
  c1 : w.cell? ⟨g, 1, none⟩ = some (i64 st)
  c2 : w.cell? ⟨g, 2, none⟩ = some (.slice A n cp)
  rd : Rd3 w A n rs
theorem MachP.below {w w' : World} {g : Nat} {sy st : Int} {A : Option Addr} {n cp : Nat} {rs : List Rule3} (h : MachP w g sy st A n cp rs) (hb : Below w.heap.size w w') : MachP w' g sy st A n cp rs :=
  ⟨keepc hb h.c0, keepc hb h.c1, keepc hb h.c2, h.rd.below hb⟩

end Go.Proofs.YtebjpmmgdkepjaaGreatDoor
/-
  Contracts of chapter 5: valid configurations.
-/
namespace Go.Proofs.YtebjpmmgdkepjaaGreatDoor
open Go.RowKit

def lastB (xs : List Int) : Bool := xs.length == 0 || xs.getD (xs.length - 1) 0 != 0
def sideB (sy most : Int) (xs : List Int) : Bool := decide ((xs.length : Int) ≤ most) && allB 0 (sy - 1) xs && lastB xs
def confB (sy st s : Int) (xs ys : List Int) : Bool := inB s 0 (st - 1) && sideB sy 200 xs && sideB sy 200 ys
/-- a configuration behind a pointer -/
structure ConfP (w : World) (g : Nat) (s : Int) (A : Option Addr) (n cp : Nat) (xs : List Int) (A' : Option Addr) (n' cp' : Nat) (ys : List Int) : Prop where
  c0 : w.cell? ⟨g, 0, none⟩ = some (i64 s)
  c1 : w.cell? ⟨g, 1, none⟩ = some (.slice A n cp)
  c2 : w.cell? ⟨g, 2, none⟩ = some (.slice A' n' cp')
  rd : RdI w A n xs
  rd' : RdI w A' n' ys
theorem ConfP.below {w w' : World} {g : Nat} {s : Int} {A : Option Addr} {n cp : Nat} {xs : List Int} {A' : Option Addr} {n' cp' : Nat} {ys : List Int} (h : ConfP w g s A n cp xs A' n' cp' ys) (hb : Below w.heap.size w w') : ConfP w' g s A n cp xs A' n' cp' ys :=
  ⟨keepc hb h.c0, keepc hb h.c1, keepc hb h.c2, h.rd.below hb, h.rd'.below hb⟩
theorem ConfP.drewN {w : World} {g : Nat} {s : Int} {A : Option Addr} {n cp : Nat} {xs : List Int} {A' : Option Addr} {n' cp' : Nat} {ys : List Int} (h : ConfP w g s A n cp xs A' n' cp' ys) (m : Nat) : ConfP (w.drewN m) g s A n cp xs A' n' cp' ys := h.below (below_drewN below_size m)
theorem MachP.drewN {w : World} {g : Nat} {sy st : Int} {A : Option Addr} {n cp : Nat} {rs : List Rule3} (h : MachP w g sy st A n cp rs) (m : Nat) : MachP (w.drewN m) g sy st A n cp rs := h.below (below_drewN below_size m)
theorem getD_at {xs : List Int} {k : Nat} {x : Int} (h : xs[k]? = some x) : xs.getD k 0 = x := by rw [List.getD_eq_getElem?_getD, h]; rfl

end Go.Proofs.YtebjpmmgdkepjaaGreatDoor
/-
  Copies and reversals of lists of numbers, empty ones too; the head and the rest of a tape's side.
-/
namespace Go.Proofs.YtebjpmmgdkepjaaGreatDoor
open Go.RowKit

/-! ### Reversing in place -/
/-- the list while it is reversed: i swaps have been made -/
def RevAt (xs cs : List Int) (i : Nat) : Prop := cs.length = xs.length ∧ ∀ p, p < xs.length → cs[p]? = if p < i ∨ xs.length - i ≤ p then xs[xs.length - 1 - p]? else xs[p]?
theorem RevAt.start (xs : List Int) : RevAt xs xs 0 := ⟨rfl, fun p hp => by rw [if_neg (by omega)]⟩
theorem RevAt.done {xs cs : List Int} {i : Nat} (h : RevAt xs cs i) (hi : xs.length ≤ i + i + 1) : cs = xs.reverse := by
  apply List.ext_getElem?
  intro p
  by_cases hp : p < xs.length
  · rw [h.2 p hp, List.getElem?_reverse hp]
    split
    · rfl
    · congr 1; omega
  · rw [List.getElem?_eq_none (by rw [h.1]; omega), List.getElem?_eq_none (by rw [List.length_reverse]; omega)]
theorem RevAt.step {xs cs : List Int} {i j : Nat} {a b : Int} (h : RevAt xs cs i) (hj : j + i + 1 = xs.length) (hij : i < j) (ha : cs[i]? = some a) (hb : cs[j]? = some b) : RevAt xs ((cs.set i b).set j a) (i + 1) := by
  refine ⟨by rw [List.length_set, List.length_set]; exact h.1, fun p hp => ?_⟩
  have hl := h.1
  by_cases h1 : p = j
  · subst h1
    rw [List.getElem?_set_self (by rw [List.length_set]; omega), if_pos (by omega), ← ha, h.2 i (by omega), if_neg (by omega)]
    congr 1; omega
  · rw [List.getElem?_set_ne (fun e => h1 e.symm)]
    by_cases h2 : p = i
    · subst h2
      rw [List.getElem?_set_self (by omega), if_pos (by omega), ← hb, h.2 j (by omega), if_neg (by omega)]
      congr 1; omega
    · rw [List.getElem?_set_ne (fun e => h2 e.symm), h.2 p hp]
      by_cases h3 : p < i ∨ xs.length - i ≤ p
      · rw [if_pos h3, if_pos (by omega)]
      · rw [if_neg h3, if_neg (by omega)]
theorem keepR_drew {lo hi : Nat} {a w : World} (h : KeepR lo hi a w) : KeepR lo hi a w.drew := ⟨h.os, h.tape, h.output, h.size, h.block⟩
theorem drop_rev {ws : List Int} {k m : Nat} {x : Int} (hx : ws[k]? = some x) (hm : m = k + 1) : (ws.drop k).reverse = (ws.drop m).reverse ++ [x] := by rw [drop_at hx, List.reverse_cons, hm]
/-- a part of a list that is there -/
def BeyOut (n : Nat) (xs : List Int) (w : World) (e : Ending) (w' : World) : Prop := ∃ A' m cap, e = .returned (.slice A' m cap) ∧ m ≤ n ∧ RdI w A' m xs ∧ w = w'
end Go.Proofs.YtebjpmmgdkepjaaGreatDoor
/-
  The helpers of the laws at slices, in the form of rows.
-/
namespace Go.Proofs.YtebjpmmgdkepjaaGreatDoor
open Go.RowKit

theorem RdSU.belowB {w w' : World} {B : Nat} {ss : List Seg} (h : RdSU w B ss) (hb : Below B w w') : RdSU w' B ss := fun s hs => ⟨(h s hs).1.belowB (h s hs).2 hb, (h s hs).2⟩
theorem toInt64S_s (A : Option Addr) (n c : Nat) (xs : List Int) (w : World) (h : RdS w [sgI A n xs]) (hn : n ≤ 1000000000) :
    Calls Tryz.prog 18 #[.slice A n c] w fun e w' => ∃ g, e = .returned (.slice (some ⟨g, 0, none⟩) n n) ∧ WrS w' w.heap.size w'.heap.size [sgI (some ⟨g, 0, none⟩) n xs] ∧ Below w.heap.size w w' :=
  (toInt64S_c A n c xs w h.head (by omega)).mono fun _ _ ⟨he, hw, hb⟩ => ⟨_, he, WrS.one hw, hb⟩
theorem eqInt64S_s (A : Option Addr) (n c : Nat) (xs : List Int) (A' : Option Addr) (n' c' : Nat) (w : World) (h : RdS w [sgI A n xs]) (h' : RdS w [sgI A' n' xs]) (hn : n ≤ 1000000000) :
    Calls Tryz.prog 21 #[.slice A n c, .slice A' n' c'] w fun e w' => e = .returned (.bool true) ∧ Below w.heap.size w w' := eqInt64S_t A A' n n' c c' xs w h.head h'.head (by omega)
end Go.Proofs.YtebjpmmgdkepjaaGreatDoor
/-
  The helpers of the laws at [][]int64, in the form of rows.
-/
namespace Go.Proofs.YtebjpmmgdkepjaaGreatDoor
open Go.RowKit

/-- one slice of numbers, as an element -/
structure It where
  A : Option Addr
  n : Nat
  c : Nat
  xs : List Int
def hdI (t : It) : Value := .slice t.A t.n t.c
def bodyI (t : It) : Seg := sgI t.A t.n t.xs
def sgII (A : Option Addr) (n : Nat) (its : List It) : List Seg := ⟨A, n, its.map hdI⟩ :: its.map bodyI
def sumN : List It → Nat
  | [] => 0
  | t :: l => t.n + sumN l
theorem sumN_app : ∀ a b : List It, sumN (a ++ b) = sumN a + sumN b
  | [], b => by simp [sumN]
  | t :: a, b => by simp only [List.cons_append, sumN, sumN_app a b]; omega
theorem sumN_take {its : List It} {k : Nat} {t : It} (h : its[k]? = some t) : sumN (its.take (k + 1)) = sumN (its.take k) + t.n := by rw [take_at h, sumN_app]; simp [sumN]
theorem sumN_le {its : List It} {k : Nat} : sumN (its.take k) ≤ sumN its := by
  have := sumN_app (its.take k) (its.drop k)
  rw [List.take_append_drop] at this; omega
theorem sumN_mem {its : List It} {t : It} (h : t ∈ its) : t.n ≤ sumN its := by
  obtain ⟨k, hk⟩ := List.mem_iff_getElem?.1 h
  have h1 := sumN_take hk
  have h2 := sumN_le (its := its) (k := k + 1)
  omega
/-- .. and marked -/
def mkI : List It → Int → List Seg
  | [], _ => []
  | t :: l, k => ⟨t.A, t.n, (marks k t.n).map i64⟩ :: mkI l (k + t.n)
def mgII (A : Option Addr) (n : Nat) (its : List It) (k0 : Int) : List Seg := ⟨A, n, its.map hdI⟩ :: mkI its k0
theorem mkI_app : ∀ (a b : List It) (k : Int), mkI (a ++ b) k = mkI a k ++ mkI b (k + (sumN a : Nat))
  | [], b, k => by simp [mkI, sumN]
  | t :: a, b, k => by simp only [List.cons_append, mkI, sumN, mkI_app a b]; congr 3; omega

section
variable {w w' : World} {A : Option Addr} {n : Nat} {its : List It}
theorem RdII.len (h : RdS w (sgII A n its)) : its.length = n := by have := h.head.1; simpa using this
theorem RdII.at_ {k : Nat} (h : RdS w (sgII A n its)) (hk : k < n) : ∃ ad t, A = some ad ∧ ad.block < w.heap.size ∧ its[k]? = some t ∧ w.cell? (ad.add k) = some (.slice t.A t.n t.c) ∧ RdS w [sgI t.A t.n t.xs] := by
  have hl := RdII.len h
  have ht : its[k]? = some its[k] := List.getElem?_eq_getElem (by omega)
  obtain ⟨ad, v, e, hb, hv, hc⟩ := h.head.at_ hk
  rw [List.getElem?_map, ht] at hv
  injection hv with hv; subst hv
  refine ⟨ad, _, e, hb, ht, hc, RdS.one ?_⟩
  exact h.tail (bodyI its[k]) (List.mem_map_of_mem (List.getElem_mem (by omega)))
theorem RdII.size {t : It} (h : RdS w (sgII A n its)) (ht : t ∈ its) : t.xs.length = t.n := by
  have := (h.tail (bodyI t) (List.mem_map_of_mem ht)).1
  simpa [bodyI, sgI] using this
end

theorem hi_of {w w' : World} {A A' : Option Addr} {n n' B : Nat} {its js : List It} (h : RdS w (sgII A n its)) (h' : RdS w' (sgII A' n' js)) (hx : js.map It.xs = its.map It.xs) (hi : ∀ t ∈ its, t.n ≤ B) : ∀ t ∈ js, t.n ≤ B := by
  intro t ht
  have h1 := RdII.size h' ht
  have h2 : t.xs ∈ its.map It.xs := by rw [← hx]; exact List.mem_map_of_mem ht
  obtain ⟨u, hu, e⟩ := List.mem_map.1 h2
  have h3 := RdII.size h hu
  have := hi u hu
  rw [← h1, ← e, h3]; exact this
/-- a row whose first cells are known, the others zero -/
def fillL (vs : List Value) (z : Value) (m : Nat) : Array Value := (vs ++ List.replicate m z).toArray
theorem fillL_at (vs : List Value) (z : Value) (m : Nat) : (fillL vs z (m + 1))[vs.length]? = some z := by
  unfold fillL
  rw [List.getElem?_toArray, List.getElem?_append_right (Nat.le_refl _), Nat.sub_self]; simp
theorem fillL_all (vs : List Value) (z : Value) (n : Nat) (h : vs.length = n) : (fillL vs z 0).toList.take n = vs := by subst h; simp [fillL]
theorem fillL_set (vs : List Value) (z v : Value) (m : Nat) : (fillL vs z (m + 1)).setIfInBounds vs.length v = fillL (vs ++ [v]) z m := by
  unfold fillL
  rw [List.setIfInBounds_toArray, List.set_append_right _ _ (Nat.le_refl _), Nat.sub_self, List.replicate_succ, List.set_cons_zero, List.append_assoc]
  rfl
end Go.Proofs.YtebjpmmgdkepjaaGreatDoor
/-
  append of a slice of numbers that may be empty; several slices of the call's own that grow side by side.
-/
namespace Go.Proofs.YtebjpmmgdkepjaaGreatDoor
open Go.RowKit

/-- append of a slice of numbers to a slice of the call's own -/
theorem wp_appA {ops : Array Oper} {rest : List Oper} {o : Oper} {a : Act} {w : World} {Q : Exit → Act → World → Prop} (hgd : o.guard = none) (s x : Operand)
    (ho : o.op = .call { callee := .builtin .append, args := #[s, x], argTypes := #[29, 29] })
    (B : Nat) (A : Option Addr) (n c : Nat) (vs : List Value) (hs : a.eval s = .slice A n c) (hown : Own w B 2 1 A n c vs)
    (X : Option Addr) (m c' : Nat) (xs : List Int) (hx : a.eval x = .slice X m c') (hX : RdI w X m xs) (hlen : n + m ≤ 10000000000) (hB : B ≤ w.heap.size)
    (h : ∀ A' cap w', Own w' B 2 1 A' (n + m) cap (vs ++ xs.map i64) → Below B w w' → (∀ b, b < w.heap.size → (∀ ad', A = some ad' → ad'.block ≠ b) → w'.heap[b]? = w.heap[b]?) → (A' = A ∨ A' = some ⟨w.heap.size, 0, none⟩) → w.heap.size ≤ w'.heap.size →
      wpList Tryz.prog ops Q rest (a.put o.dst (.slice A' (n + m) cap)) w') : wpList Tryz.prog ops Q (o :: rest) a w := by
  by_cases h0 : 0 < m
  · obtain ⟨hl, hc⟩ := hX
    obtain ⟨ad, rfl, hab, hcs⟩ := hc h0
    refine wp_app hgd s x 29 2 (.int .i64 0) 1 8 ho Tryz.underlying29 info_i64 rfl (by omega) B A n c vs hs hown ad m c' (xs.map i64) hx h0 (by rw [hl, Nat.mul_one]) hcs (by intro u hu; obtain ⟨y, _, rfl⟩ := List.mem_map.1 hu; rfl) (by omega) (by omega) hB ?_
    intro g' cap w2 own2 hb2 hk2 hg2 hz2
    exact h _ cap w2 own2 hb2 hk2 (hg2.elim (fun e => .inl e.symm) (fun e => .inr (by rw [e]))) hz2
  · obtain rfl : m = 0 := by omega
    have hws : xs = [] := List.length_eq_zero_iff.1 (by have := hX.1; simpa using this)
    subst hws
    refine wp_app0 hgd s x 29 2 (.int .i64 0) 1 8 ho Tryz.underlying29 info_i64 A n c hs hown.cap X c' hx ?_
    exact h A c w (by simpa using hown) ⟨rfl, rfl, rfl, Nat.le_refl _, fun _ _ => rfl⟩ (fun _ _ _ => rfl) (.inl rfl) (Nat.le_refl _)

/-- the blocks of a slice of the call's own and of its rows -/
def blks (A : Option Addr) (ss : List Seg) (b : Nat) : Prop := (∃ ad, A = some ad ∧ ad.block = b) ∨ ∃ s ∈ ss, ∃ a, s.A = some a ∧ 0 < s.n ∧ a.block = b
def Apt (X Y : Nat → Prop) : Prop := ∀ b, X b → Y b → False
section
variable {w w' : World} {B : Nat} {e : TypeId} {size n c : Nat} {A : Option Addr} {vs : List Value} {ss : List Seg}
theorem Apt.symm {X Y : Nat → Prop} (h : Apt X Y) : Apt Y X := fun b hy hx => h b hx hy
theorem Apt.grow {X X' Y : Nat → Prop} {l : Nat} (h : Apt X Y) (hX : ∀ b, X' b → X b ∨ l ≤ b) (hY : ∀ b, Y b → b < l) : Apt X' Y := fun b hx hy => by
  rcases hX b hx with h1 | h1
  · exact h b h1 hy
  · have := hY b hy; omega
theorem OwnS.lt (h : OwnS w B e size A n c vs ss) {b : Nat} (hb : blks A ss b) : B ≤ b ∧ b < w.heap.size := by
  rcases hb with ⟨ad, ha, rfl⟩ | ⟨s, hs, a, ha, hn, rfl⟩
  · exact ⟨(h.own.block ha).1, (h.own.block ha).2.1⟩
  · obtain ⟨a', e', h1, _, h3, _⟩ := (h.wrs.each s hs).2 hn
    rw [ha] at e'; injection e' with e'; subst e'; exact ⟨h1, h3⟩
theorem OwnS.moveF (h : OwnS w B e size A n c vs ss) (hk : ∀ b, blks A ss b → w'.heap[b]? = w.heap[b]?) (hs : w.heap.size ≤ w'.heap.size) : OwnS w' B e size A n c vs ss :=
  ⟨h.own.move fun ad ha => hk _ (.inl ⟨ad, ha, rfl⟩), ⟨fun s hs' => (h.wrs.each s hs').move (fun ad hn e => hk _ (.inr ⟨s, hs', ad, e, hn, rfl⟩)) hs hs, h.wrs.apart⟩, h.ne⟩
theorem blks_nil {b : Nat} (hb : blks none [] b) : False := by
  rcases hb with ⟨_, h, _⟩ | ⟨_, h, _⟩
  · cases h
  · cases h
theorem blks_own {A A' : Option Addr} {l b : Nat} (hA : A' = A ∨ A' = some ⟨l, 0, none⟩) (hb : blks A' ss b) : blks A ss b ∨ l ≤ b := by
  rcases hb with ⟨ad, ha, rfl⟩ | h
  · rcases hA with hA | hA
    · exact .inl (.inl ⟨ad, by rw [← hA]; exact ha, rfl⟩)
    · rw [hA] at ha; injection ha with ha; subst ha; exact .inr (Nat.le_refl _)
  · exact .inl (.inr h)
theorem blks_push {A A' : Option Addr} {s : Seg} {l b : Nat} (hA : A' = A ∨ ∃ g, A' = some ⟨g, 0, none⟩ ∧ l ≤ g) (hs : ∀ a, s.A = some a → 0 < s.n → l ≤ a.block) (hb : blks A' (ss ++ [s]) b) : blks A ss b ∨ l ≤ b := by
  rcases hb with ⟨ad, ha, rfl⟩ | ⟨t, ht, a, ha, hn, rfl⟩
  · rcases hA with hA | ⟨g, hA, hg⟩
    · exact .inl (.inl ⟨ad, by rw [← hA]; exact ha, rfl⟩)
    · rw [hA] at ha; injection ha with ha; subst ha; exact .inr hg
  · rcases List.mem_append.1 ht with ht | ht
    · exact .inl (.inr ⟨t, ht, a, ha, hn, rfl⟩)
    · rw [List.mem_singleton] at ht; subst ht; exact .inr (hs a ha hn)
/-- all rows of two, together -/
theorem OwnS.both {A' : Option Addr} {e' : TypeId} {size' n' c' : Nat} {vs' : List Value} {ss' : List Seg} (h : OwnS w B e size A n c vs ss) (h' : OwnS w B e' size' A' n' c' vs' ss') (ha : Apt (blks A ss) (blks A' ss')) :
    WrS w B w.heap.size ((⟨A, n * size, vs⟩ :: ss) ++ (⟨A', n' * size', vs'⟩ :: ss')) := by
  refine ⟨fun s hs => (List.mem_append.1 hs).elim (fun h1 => h.wrS.each s h1) (fun h1 => h'.wrS.each s h1), List.pairwise_append.2 ⟨h.wrS.apart, h'.wrS.apart, ?_⟩⟩
  have key : ∀ (A : Option Addr) (ss : List Seg) (k : Nat) (vs : List Value) (s : Seg), s ∈ (⟨A, k, vs⟩ :: ss : List Seg) → ∀ a, s.A = some a → 0 < s.n → blks A ss a.block := fun A ss k vs s hs a e hn => by
    rcases List.mem_cons.1 hs with rfl | hs
    · exact .inl ⟨a, e, rfl⟩
    · exact .inr ⟨s, hs, a, e, hn, rfl⟩
  intro s hs t ht a b e1 e2 hn hm hab
  exact ha _ (key _ _ _ _ s hs a e1 hn) (by rw [hab]; exact key _ _ _ _ t ht b e2 hm)
end
end Go.Proofs.YtebjpmmgdkepjaaGreatDoor
