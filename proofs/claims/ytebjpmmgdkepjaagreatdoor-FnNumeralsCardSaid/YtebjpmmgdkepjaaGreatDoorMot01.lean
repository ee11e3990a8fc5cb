/-
  Parts of the proof, one behind the other: contracts of the functions that the law reaches, and plain laws.
-/
import Derived.Test.YtebjpmmgdkepjaaGreatDoorLot13
import Derived.Test.YtebjpmmgdkepjaaGreatDoorLot21
import Derived.Test.YtebjpmmgdkepjaaGreatDoorLot28
import Derived.Test.YtebjpmmgdkepjaaGreatDoorLot24
import Derived.Test.YtebjpmmgdkepjaaGreatDoorLot01
import Derived.MapKept
import Derived.DeepKeys3
import Derived.Carry
import Derived.Test.YtebjpmmgdkepjaaGreatDoorLot03
import Derived.Test.YtebjpmmgdkepjaaGreatDoorLot12
import Derived.Test.YtebjpmmgdkepjaaGreatDoorLot25
import Derived.Test.YtebjpmmgdkepjaaGreatDoorLot30
import Derived.Test.YtebjpmmgdkepjaaGreatDoorProg
import Derived.ProofKit
import Derived.OpenShut
import Derived.Lib.SmallJoins
/-
  The numerals' sums and products, in plain Lean: sixteen pairs each. Nothing of the program.
-/
namespace Go.Proofs.YtebjpmmgdkepjaaGreatDoor
open Go.RowKit

def addLm : LT := [(1, 0), (1, 0), (1, 0), (1, 0), (2, 0), (2, 0), (0, 3), (0, 1), (2, 0), (2, 0), (0, 2), (0, 1), (0, 0)]
def mulLm : LT := [(1, 0), (1, 0), (1, 0), (2, 0), (0, 2), (2, 0), (0, 1), (0, 0)]
def runOk (t : LT) (v : Nat) : Bool := match runL 200 t 0 with
  | some (u, _, q) => q && decide (u = numLm v)
  | none => false
def combOk (t : LT) (v : Nat) : Bool := match lcP t.length 0 t with
  | some (c, r) => decide (r = []) && validC c && !hasV c && (decide ((nuN c 400).2.2 = 5) || decide ((nuN c 400).2.2 = 0) && decide ((nuN c 400).1 = (v : Int)))
  | none => false
def allNu (f : LT) (g : Nat → Nat → Nat) : Bool := (List.range 4).all fun a => (List.range 4).all fun b => validL (appLm f [numLm a, numLm b]) && runOk (appLm f [numLm a, numLm b]) (g a b) && combOk (appLm f [numLm a, numLm b]) (g a b)
theorem add_all : allNu addLm (· + ·) = true := by decide +kernel
theorem mul_all : allNu mulLm (· * ·) = true := by decide +kernel
end Go.Proofs.YtebjpmmgdkepjaaGreatDoor
/-
  The numerals' sums and products: what the law's walk takes of them. Nothing of the program.
-/
namespace Go.Proofs.YtebjpmmgdkepjaaGreatDoor
open Go.RowKit

/-- a term that becomes a number's numeral, and so does its combinator term where it has an answer -/
structure NuF (T : LT) (v : Nat) : Prop where
  valid : validL T = true
  run : ∃ k, rcL T 200 = (numLm v, k, true, 0)
  comb : ∃ c, LcX 0 T (some c) ∧ c.length ≤ 400 ∧ ∃ s, nuR c 400 = (0, s, 5) ∨ nuR c 400 = ((v : Int), s, 0)
theorem NuF.of {T : LT} {v : Nat} (h1 : validL T = true) (h2 : runOk T v = true) (h3 : combOk T v = true) (hc : Clo 0 T) : NuF T v := by
  refine ⟨h1, ?_, ?_⟩
  · rw [runOk] at h2
    cases hr : runL 200 T 0 with
    | none => rw [hr] at h2; cases h2
    | some p =>
      obtain ⟨u, k, q⟩ := p
      rw [hr] at h2
      simp only [Bool.and_eq_true, decide_eq_true_eq] at h2
      obtain ⟨rfl, rfl⟩ := h2
      exact ⟨k, by rw [rcL, if_neg (by rw [h1]; simp), if_neg (by decide), show (200 : Int).toNat = 200 from rfl, hr]; rfl⟩
  · obtain ⟨o, hx⟩ := hc.lcX
    have hz := hx.zero.1
    rw [combOk, hz] at h3
    cases o with
    | none => cases h3
    | some c =>
      simp only [Option.map_some, Bool.and_eq_true, Bool.or_eq_true, decide_eq_true_eq, Bool.not_eq_true', true_and] at h3
      obtain ⟨⟨h5, h6⟩, h7⟩ := h3
      have h8 : nuR c 400 = nuN c 400 := by rw [nuR, if_neg (by rw [h5]; simp), if_neg (by decide), if_neg (by rw [h6]; simp)]; rfl
      refine ⟨c, hx, (hx.cw c rfl).2.1, ?_⟩
      rw [h8]
      rcases h9 : nuN c 400 with ⟨x, s, e⟩
      rw [h9] at h7
      refine ⟨s, ?_⟩
      rcases h7 with h7 | ⟨h7, h7'⟩
      · simp only at h7; subst h7
        left
        have hx0 : x = 0 := by
          rw [nuN] at h9
          split at h9
          · unfold nuX at h9
            split at h9
            · split at h9
              · injection h9 with _ h9; injection h9 with _ h9; cases h9
              · injection h9 with _ h9; injection h9 with _ h9; cases h9
            · injection h9 with h9 _; exact h9.symm
          · injection h9 with h9 _; exact h9.symm
        rw [hx0]
      · simp only at h7 h7'; subst h7 h7'; right; rfl
theorem nuF_all {f : LT} {g : Nat → Nat → Nat} (h : allNu f g = true) (hc : Clo 0 f) {a b : Nat} (ha : a ≤ 3) (hb : b ≤ 3) : NuF (appLm f [numLm a, numLm b]) (g a b) := by
  rw [allNu] at h
  have h1 := List.all_eq_true.1 (List.all_eq_true.1 h a (List.mem_range.2 (by omega))) b (List.mem_range.2 (by omega))
  simp only [Bool.and_eq_true] at h1
  exact .of h1.1.1 h1.1.2 h1.2 (Clo.apps hc fun u hu => by
    rcases List.mem_cons.1 hu with rfl | hu
    · exact Clo.num _
    · rw [List.mem_singleton] at hu; subst hu; exact Clo.num _)
theorem clo_add : Clo 0 addLm := .abs (.abs (.abs (.abs (.app (a := [(2, 0), (0, 3), (0, 1)]) (.app (a := [(0, 3)]) (.var (by omega) (by omega)) (.var (by omega) (by omega))) (.app (a := [(2, 0), (0, 2), (0, 1)]) (.app (a := [(0, 2)]) (.var (by omega) (by omega)) (.var (by omega) (by omega))) (.var (by omega) (by omega)))))))
theorem clo_mul : Clo 0 mulLm := .abs (.abs (.abs (.app (a := [(0, 2)]) (.var (by omega) (by omega)) (.app (a := [(0, 1)]) (.var (by omega) (by omega)) (.var (by omega) (by omega))))))
theorem nvL_small : ∀ v, v < 10 → nvL (numLm v) = (v : Int) ∧ validL (numLm v) = true := by decide +kernel
end Go.Proofs.YtebjpmmgdkepjaaGreatDoor
/-
  Terms of the lambda calculus: the program's application of a term to terms.
-/
namespace Go.Proofs.YtebjpmmgdkepjaaGreatDoor
open Go.RowKit

set_option maxHeartbeats 1000000 in
theorem applyLam1_c (A : Option Addr) (n c : Nat) (t : LT) (w : World) (h : Rd2 w A n t) (hn : n ≤ 1000000000) (hv : validL t = true) :
    Calls Tryz.prog 29 #[.slice A n c] w fun e w' => e = .returned (.bool false) ∧ Below w.heap.size w w' := by
  have HH := Lib.hid h; have HQ := Lib.hid hv
  clear h hv
  go_enter Tryz.func29, Tryz.ntmps29
  go_wp2_with fail
  refine (validLam_c _ _ _ t true _ HH.out hn HQ.out).mono ?_
  rintro e w1 ⟨rfl, hb1⟩
  go_wp2_with fail
  go_ret
  exact ⟨rfl, hb1⟩
set_option maxHeartbeats 1000000 in
theorem indexTms_c (A : Option Addr) (n cp : Nat) (ps : List Tm) (w : World) (h : RdV w 2 A n (ps.map Tm.it)) (hv : ∀ p ∈ ps, validL p.t = true) (hn : n ≤ 1000000) :
    Calls Tryz.prog 60 #[.slice A n cp, .func (.func 29) #[] #[]] w fun e w' => e = .returned (.int .i64 (-1)) ∧ Below w.heap.size w w' := by
  have H := Lib.hid h; have HV := Lib.hid hv
  clear h hv
  go_enter Tryz.func60, Tryz.ntmps60
  go_wp2_with fail
  go_loopw [8] (fun iv wr => ∃ k : Nat, k ≤ n ∧ iv = .int .i64 k ∧ Below w.heap.size w wr) (fun iv _ => n - (intOf iv).toNat)
  case atStart => exact ⟨0, by omega, rfl, below_size⟩
  case round =>
    obtain ⟨k, hk, rfl, hb⟩ := hrel
    have HB := Lib.hid hb
    by_cases hlt : k < n
    · obtain ⟨ad, t, rfl, ht, hc, hrd, _⟩ := (H.out.below hb).at_ hlt
      rw [List.getElem?_map] at ht
      obtain ⟨p, hp, rfl⟩ := Option.map_eq_some_iff.1 ht
      have hpm : p ∈ ps := List.mem_of_getElem? hp
      have RD := Lib.hid (show Rd2 wr p.A p.t.length p.t from hrd)
      have hpv := HV.out p hpm
      have hpl : p.t.length ≤ 400 := (validL_end hpv).2.2
      obtain ⟨tA, tc, tt⟩ := p
      simp only [Tm.it] at hc RD hpv hpl
      have HC1 := Lib.hid (applyLam1_c tA tt.length tc tt wr RD.out (by omega) hpv)
      clear ht hrd hb hp hpm hpv
      go_wp2_with fail
      refine HC1.out.mono ?_
      rintro e w1 ⟨rfl, hb1⟩
      go_wp2_with fail
      go_roundw
      case rel => exact ⟨k + 1, by omega, by go_num, below_chain HB.out HB.out.size hb1⟩
      case measure => simp [intOf]; omega
    · clear hb
      go_wp2_with fail
      go_ret
      exact ⟨rfl, HB.out⟩
set_option maxHeartbeats 1000000 in
theorem ApplyLam_c (A : Option Addr) (n c : Nat) (t : LT) (G : Option Addr) (m mc N : Nat) (ps : List Tm) (T : LT) (w : World) (h : Rd2 w A n t) (ht : validL t = true) (hG : RdV w 2 G m (ps.map Tm.it)) (hm : m ≤ 11) (hv : ∀ p ∈ ps, validL p.t = true) (hT : appLm t (ps.map Tm.t) = T) (hTv : validL T = true) (hN : T.length = N) :
    Calls Tryz.prog 10 #[.slice A n c, .slice G m mc] w fun e w' => ∃ A' c', e = .returned (.tuple #[.slice A' N c', .int .i64 0]) ∧ Rd2 w' A' N T ∧ Below w.heap.size w w' := by
  have hl := h.len
  have hn4 : n ≤ 400 := by rw [← hl]; exact (validL_end ht).2.2
  have hN4 : N ≤ 400 := by rw [← hN]; exact (validL_end hTv).2.2
  have HI := Lib.hid (fun (w' : World) (hb : Below w.heap.size w w') => indexTms_c G m mc ps w' (hG.below hb) hv (by omega))
  have HC := Lib.hid (fun (w' : World) (hb : Below w.heap.size w w') => show Calls Tryz.prog 28 #[.slice G m mc, .func (.func 29) #[] #[]] w' fun e w'' => e = .returned (.bool false) ∧ Below w'.heap.size w' w'' by
    clear h hG hT hTv
    go_enter Tryz.func28, Tryz.ntmps28
    go_wp2_with fail
    refine (HI.out w' hb).mono ?_
    rintro e w1 ⟨rfl, hb1⟩
    go_wp2_with fail
    go_ret
    exact ⟨rfl, hb1⟩)
  have HV := Lib.hid (validLam_c A n c t true w h (by omega) ht)
  have HA := Lib.hid (fun (w' : World) (hb : Below w.heap.size w w') => applyLamT_c A n c t G m mc N ps T w' (h.below hb) (hG.below hb) hm hT hN (by omega))
  have HTV := Lib.hid hTv
  clear h hG hT hTv hN hv ht HI
  go_enter Tryz.func10, Tryz.ntmps10
  go_wp2_with fail
  refine HV.out.mono ?_
  rintro e w1 ⟨rfl, hb1⟩
  have B1 := Lib.hid hb1; have hz1 := hb1.size
  clear hb1
  go_wp2_with fail
  refine (HC.out _ B1.out).mono ?_
  rintro e w2 ⟨rfl, hb2⟩
  have B2 := Lib.hid (B1.out.trans (hb2.mono hz1)); have hz2 := B2.out.size
  clear hb2
  go_wp2_with fail
  refine (HA.out _ B2.out).mono ?_
  rintro e w3 ⟨A3, c3, rfl, _, hw3, hc3, hb3⟩
  have B3 := Lib.hid (B2.out.trans (hb3.mono hz2)); have R3 := Lib.hid (show Rd2 w3 A3 N T from hw3.rd); have hz3 := B3.out.size
  clear hw3 hc3 hb3
  go_wp2_with fail
  refine (checkedLam_c A3 N c3 T true w3 R3.out (by omega) HTV.out).mono ?_
  rintro e w4 ⟨rfl, hb4⟩
  have B4 := Lib.hid (B3.out.trans (hb4.mono hz3)); have R4 := Lib.hid (R3.out.below hb4)
  clear hb4
  simp only [if_true]
  go_wp2_with fail
  go_ret2
  exact ⟨A3, c3, rfl, R4.out, B4.out⟩
end Go.Proofs.YtebjpmmgdkepjaaGreatDoor
/-
  Maps that the call itself makes, by the list of their entries: a look-up with 'ok' and a store at a key that is not there yet; keys that are integers or structs of two integers. Nothing of the program.
-/
namespace Go.Proofs.YtebjpmmgdkepjaaGreatDoor
open Go.RowKit

/-- block g is a map with the entries m, in the order in which they came -/
def MapAt {α β : Type} (w : World) (g : Nat) (kv : α → Value) (vv : β → Value) (m : List (α × β)) : Prop :=
  ∃ es clock, w.heap[g]? = some (.map es clock) ∧ es.toList.map (fun e => (e.key, e.val)) = m.map (fun p => (kv p.1, vv p.2))

/-- what the model does with keys of this type -/
structure KeyOk {α : Type} (P : Program) (K : TypeId) (kv : α → Value) : Prop where
  check : ∀ (b : Bool) (k : α) (w : World), (Instr.checkKey b 10000 K (kv k)).run P w = .ok () w
  find : ∀ (k : α) (l : List α) (es : List MapEntry) (w : World), es.map (·.key) = l.map kv →
    ((k ∉ l ∧ (Instr.findKey K (kv k) es).run P w = .ok none w) ∨ ∃ j e, l[j]? = some k ∧ (∀ i, i < j → l[i]? ≠ some k) ∧ es[j]? = some e ∧ (Instr.findKey K (kv k) es).run P w = .ok (some (j, e.val)) w)

section
variable {α β : Type} {P : Program} {K : TypeId} {kv : α → Value}

theorem asking {w : World} (heq : ∀ a b, ∃ r : Bool, (Op.equal K (kv a) (kv b)).run P w = .ok r w ∧ (r = true ↔ a = b)) (k : α) : ∀ (l : List α) (es : List MapEntry) (i0 : Nat), es.map (·.key) = l.map kv →
    ((k ∉ l ∧ (Instr.findAsking K (kv k) es i0).run P w = .ok none w) ∨ ∃ j e, l[j]? = some k ∧ (∀ i, i < j → l[i]? ≠ some k) ∧ es[j]? = some e ∧ (Instr.findAsking K (kv k) es i0).run P w = .ok (some (i0 + j, e.val)) w)
  | [], es, i0, h => by
    have : es = [] := by simpa using h
    subst this
    exact .inl ⟨by simp, by simp [Instr.findAsking]⟩
  | a :: l, es, i0, h => by
    cases es with
    | nil => simp at h
    | cons e es =>
      simp only [List.map_cons, List.cons.injEq] at h
      obtain ⟨r, hr, hiff⟩ := heq k a
      cases r with
      | true =>
        have := hiff.1 rfl; subst this
        exact .inr ⟨0, e, rfl, fun i hi => by omega, rfl, by simp [Instr.findAsking, h.1, hr]⟩
      | false =>
        have hne : k ≠ a := fun e => by have := hiff.2 e; cases this
        rcases asking heq k l es (i0 + 1) h.2 with ⟨h1, h2⟩ | ⟨j, e', h1, h2, h3, h4⟩
        · exact .inl ⟨by simp [hne, h1], by simp [Instr.findAsking, h.1, hr, h2]⟩
        · refine .inr ⟨j + 1, e', by simpa using h1, fun i hi => ?_, by simpa using h3, by simp [Instr.findAsking, h.1, hr, h4, Nat.add_assoc, Nat.add_comm 1 j]⟩
          cases i with
          | zero => simpa using fun e => hne e.symm
          | succ i => simpa using h2 i (by omega)

theorem now_int (q : IntKind) (k : Int) : ∀ (l : List Int) (es : List MapEntry) (i0 : Nat), es.map (·.key) = l.map (Value.int q) →
    ((k ∉ l ∧ Instr.findNow (.int q) (.int q k) es i0 = some none) ∨ ∃ j e, l[j]? = some k ∧ (∀ i, i < j → l[i]? ≠ some k) ∧ es[j]? = some e ∧ Instr.findNow (.int q) (.int q k) es i0 = some (some (i0 + j, e.val)))
  | [], es, i0, h => by
    have : es = [] := by simpa using h
    subst this
    exact .inl ⟨by simp, by simp [Instr.findNow]⟩
  | a :: l, es, i0, h => by
    cases es with
    | nil => simp at h
    | cons e es =>
      simp only [List.map_cons, List.cons.injEq] at h
      by_cases hk : k = a
      · subst hk
        exact .inr ⟨0, e, rfl, fun i hi => by omega, rfl, by simp [Instr.findNow, Instr.sameNow, h.1]⟩
      · have hkb : (k == a) = false := by simp [hk]
        rcases now_int q k l es (i0 + 1) h.2 with ⟨h1, h2⟩ | ⟨j, e', h1, h2, h3, h4⟩
        · exact .inl ⟨by simp [hk, h1], by simp [Instr.findNow, Instr.sameNow, h.1, hkb, h2]⟩
        · refine .inr ⟨j + 1, e', by simpa using h1, fun i hi => ?_, by simpa using h3, by simp [Instr.findNow, Instr.sameNow, h.1, hkb, h4, Nat.add_assoc, Nat.add_comm 1 j]⟩
          cases i with
          | zero => simpa using fun e => hk e.symm
          | succ i => simpa using h2 i (by omega)

theorem keyOk_int {q : IntKind} (hK : P.underlying K = some (.int q)) : KeyOk P K (Value.int q) where
  check b k w := MapKept.run_checkKey hK (by simp [MapKept.IsKey]) b 9999
  find k l es w h := by
    rcases now_int q k l es 0 h with ⟨h1, h2⟩ | ⟨j, e, h1, h2, h3, h4⟩
    · exact .inl ⟨h1, MapKept.run_findKey hK h2⟩
    · exact .inr ⟨j, e, h1, h2, h3, by rw [MapKept.run_findKey hK h4]; simp⟩

theorem now_str (k : ByteArray) : ∀ (l : List ByteArray) (es : List MapEntry) (i0 : Nat), es.map (·.key) = l.map Value.string →
    ((k ∉ l ∧ Instr.findNow .string (.string k) es i0 = some none) ∨ ∃ j e, l[j]? = some k ∧ (∀ i, i < j → l[i]? ≠ some k) ∧ es[j]? = some e ∧ Instr.findNow .string (.string k) es i0 = some (some (i0 + j, e.val)))
  | [], es, i0, h => by
    have : es = [] := by simpa using h
    subst this
    exact .inl ⟨by simp, by simp [Instr.findNow]⟩
  | a :: l, es, i0, h => by
    cases es with
    | nil => simp at h
    | cons e es =>
      simp only [List.map_cons, List.cons.injEq] at h
      by_cases hk : k = a
      · subst hk
        have hkb : (k == k) = true := (MapKept.bytes_beq k k).2 rfl
        exact .inr ⟨0, e, rfl, fun i hi => by omega, rfl, by simp [Instr.findNow, Instr.sameNow, h.1, hkb]⟩
      · have hkb : (k == a) = false := by
          cases hq : (k == a) with
          | false => rfl
          | true => exact absurd ((MapKept.bytes_beq k a).1 hq) hk
        rcases now_str k l es (i0 + 1) h.2 with ⟨h1, h2⟩ | ⟨j, e', h1, h2, h3, h4⟩
        · exact .inl ⟨by simp [hk, h1], by simp [Instr.findNow, Instr.sameNow, h.1, hkb, h2]⟩
        · refine .inr ⟨j + 1, e', by simpa using h1, fun i hi => ?_, by simpa using h3, by simp [Instr.findNow, Instr.sameNow, h.1, hkb, h4, Nat.add_assoc, Nat.add_comm 1 j]⟩
          cases i with
          | zero => simpa using fun e => hk e.symm
          | succ i => simpa using h2 i (by omega)
theorem keyOk_str (hK : P.underlying K = some .string) : KeyOk P K Value.string where
  check b k w := MapKept.run_checkKey hK (by simp [MapKept.IsKey]) b 9999
  find k l es w h := by
    rcases now_str k l es 0 h with ⟨h1, h2⟩ | ⟨j, e, h1, h2, h3, h4⟩
    · exact .inl ⟨h1, MapKept.run_findKey hK h2⟩
    · exact .inr ⟨j, e, h1, h2, h3, by rw [MapKept.run_findKey hK h4]; simp⟩

/-- a struct of two integers as a key -/
def pairKey (p : Int × Int) : Value := .agg #[.int .i64 p.1, .int .i64 p.2]
theorem now_agg {fs : Array Field} (p : Int × Int) (e : MapEntry) (es : List MapEntry) (i : Nat) : Instr.findNow (.struct fs) (pairKey p) (e :: es) i = none := by
  simp only [Instr.findNow, Instr.sameNow]
theorem keyOk_pair {fs : Array Field} (hK : P.underlying K = some (.struct fs)) (hc : ∀ (b : Bool) p w, (Instr.checkKey b 10000 K (pairKey p)).run P w = .ok () w)
    (heq : ∀ a b w, ∃ r : Bool, (Op.equal K (pairKey a) (pairKey b)).run P w = .ok r w ∧ (r = true ↔ a = b)) : KeyOk P K pairKey where
  check b k w := hc b k w
  find k l es w h := by
    cases es with
    | nil =>
      have : l = [] := by simpa using h.symm
      subst this
      exact .inl ⟨by simp, MapKept.run_findKey hK (by rfl)⟩
    | cons e es =>
      have hr : (Instr.findKey K (pairKey k) (e :: es)).run P w = (Instr.findAsking K (pairKey k) (e :: es)).run P w := by
        simp only [Instr.findKey, Sem.run_bind, run_underlying hK, Result.andThen_ok, now_agg]
      rw [hr]
      rcases asking (fun a b => heq a b w) k l (e :: es) 0 h with h | ⟨j, e', h1, h2, h3, h4⟩
      · exact .inl h
      · exact .inr ⟨j, e', h1, h2, h3, by rw [h4]; simp⟩

variable {vv : β → Value} {w w' : World} {g : Nat} {m : List (α × β)} {T E : TypeId}

theorem MapAt.lt (h : MapAt w g kv vv m) : g < w.heap.size := by obtain ⟨es, c, hb, _⟩ := h; exact (Array.getElem?_eq_some_iff.1 hb).1
theorem MapAt.of_block (hb : w'.heap[g]? = w.heap[g]?) (h : MapAt w g kv vv m) : MapAt w' g kv vv m := by obtain ⟨es, c, h1, h2⟩ := h; exact ⟨es, c, hb.trans h1, h2⟩
theorem MapAt.below {B : Nat} (h : MapAt w g kv vv m) (hb : Below B w w') (hg : g < B) : MapAt w' g kv vv m := .of_block (hb.block g hg) h
theorem MapAt.keep (h : MapAt w g kv vv m) (hb : Below w.heap.size w w') : MapAt w' g kv vv m := h.below hb h.lt
theorem MapAt.keepR {lo hi : Nat} (h : MapAt w g kv vv m) (hk : KeepR lo hi w w') (hg : g < lo ∨ hi ≤ g) : MapAt w' g kv vv m := .of_block (hk.block g h.lt hg) h
theorem MapAt.alloc (h : MapAt w g kv vv m) (o : Obj) : MapAt (w.alloc o) g kv vv m := h.keep (below_size.alloc (Nat.le_refl _) o)
theorem MapAt.drew (h : MapAt w g kv vv m) : MapAt w.drew g kv vv m := h
theorem MapAt.drewN (h : MapAt w g kv vv m) (n : Nat) : MapAt (w.drewN n) g kv vv m := h
theorem MapAt.new (w : World) (kv : α → Value) (vv : β → Value) : MapAt (w.alloc (.map #[] 0)) w.heap.size kv vv [] := ⟨#[], 0, heap_alloc_new w _, by simp⟩
theorem MapAt.far (h : MapAt w g kv vv m) {p : Addr} (hp : g ≠ p.block) (u : Value) : MapAt (w.setCell p u) g kv vv m := .of_block (Below.heap_setCell w p u g hp) h

theorem MapAt.keys (h : MapAt w g kv vv m) : ∃ es clock, w.heap[g]? = some (.map es clock) ∧ es.toList.map (·.key) = (m.map (·.1)).map kv ∧ es.toList.map (·.val) = (m.map (·.2)).map vv ∧ es.toList.map (fun e => (e.key, e.val)) = m.map (fun p => (kv p.1, vv p.2)) := by
  obtain ⟨es, c, hb, he⟩ := h
  refine ⟨es, c, hb, ?_, ?_, he⟩
  · have := congrArg (List.map Prod.fst) he; simpa [Function.comp_def] using this
  · have := congrArg (List.map Prod.snd) he; simpa [Function.comp_def] using this

/-- 'v, ok := m[k]' where k is not there -/
theorem MapAt.look_none (h : MapAt w g kv vv m) (hk : KeyOk P K kv) (ht : P.underlying T = some (.map K E)) {z : Value} (hz : (zeroValue E).run P w = .ok z w) {k : α} (hn : k ∉ m.map (·.1)) :
    (Instr.lookup T (.map (some g)) (kv k) true).run P w = .ok (.tuple #[z, .bool false]) w := by
  obtain ⟨es, c, hb, h1, h2, _⟩ := h.keys
  rcases hk.find k _ _ w h1 with ⟨_, hr⟩ | ⟨j, e, hj, _⟩
  · simp [Instr.lookup, run_underlying ht, MapKept.run_getObj_map hb, hk.check, hr, hz, Result.andThen]
  · exact absurd (List.mem_of_getElem? hj) hn

/-- 'v, ok := m[k]' where k is there -/
theorem MapAt.look_some (h : MapAt w g kv vv m) (hk : KeyOk P K kv) (ht : P.underlying T = some (.map K E)) {k : α} {v : β} (hin : k ∈ m.map (·.1)) (hu : ∀ v', (k, v') ∈ m → v' = v) :
    (Instr.lookup T (.map (some g)) (kv k) true).run P w = .ok (.tuple #[vv v, .bool true]) w := by
  obtain ⟨es, c, hb, h1, h2, _⟩ := h.keys
  rcases hk.find k _ _ w h1 with ⟨hn, _⟩ | ⟨j, e, hj, _, he, hr⟩
  · exact absurd hin hn
  · have hv : e.val = vv v := by
      have a := congrArg (fun l => l[j]?) h2
      simp only [List.getElem?_map, he, Option.map_some] at a
      simp only [List.getElem?_map] at hj
      obtain ⟨q, hq, rfl⟩ := Option.map_eq_some_iff.1 hj
      rw [hq] at a
      simp only [Option.map_some, Option.some.injEq] at a
      rw [a, hu q.2 (List.mem_of_getElem? hq)]
    simp [Instr.lookup, run_underlying ht, MapKept.run_getObj_map hb, hk.check, hr, hv, Result.andThen]

/-- 'm[k] = v' where k is not there -/
theorem MapAt.store (h : MapAt w g kv vv m) (hk : KeyOk P K kv) (ht : P.underlying T = some (.map K E)) {k : α} (hn : k ∉ m.map (·.1)) (v : β) :
    ∃ w', (Instr.mapUpdate T (.map (some g)) (kv k) (vv v)).run P w = .ok () w' ∧ MapAt w' g kv vv (m ++ [(k, v)]) ∧ KeepR g (g + 1) w w' ∧ w'.heap.size = w.heap.size := by
  obtain ⟨es, c, hb, h1, _, h2⟩ := h.keys
  rcases hk.find k _ _ w h1 with ⟨_, hr⟩ | ⟨j, e, hj, _⟩
  · refine ⟨{ w with heap := w.heap.setIfInBounds g (.map (es.push { key := kv k, val := vv v, born := c }) (c + 1)) }, ?_, ⟨_, _, (MapKept.heap_set hb).1, ?_⟩, ⟨rfl, rfl, rfl, by simp, fun i _ hi => (MapKept.heap_set hb).2 i (by omega)⟩, by simp⟩
    · simp [Instr.mapUpdate, run_underlying ht, MapKept.run_getObj_map hb, hk.check, hr, MapKept.run_setObj_map _ hb, Result.andThen]
    · simp [h2]
  · exact absurd (List.mem_of_getElem? hj) hn
end

end Go.Proofs.YtebjpmmgdkepjaaGreatDoor
/-
  Terms of the lambda calculus: the program's standard terms.
-/
namespace Go.Proofs.YtebjpmmgdkepjaaGreatDoor
open Go.RowKit

def slN0 : List UInt8 := [116, 114, 117, 101]
def slT0 : List UInt8 := [94, 94, 49]
def slN1 : List UInt8 := [102, 97, 108, 115, 101]
def slT1 : List UInt8 := [94, 94, 48]
def slN2 : List UInt8 := [110, 101, 120, 116]
def slT2 : List UInt8 := [94, 94, 94, 40, 49, 32, 40, 40, 50, 32, 49, 41, 32, 48, 41, 41]
def slN3 : List UInt8 := [97, 100, 100]
def slT3 : List UInt8 := [94, 94, 94, 94, 40, 40, 51, 32, 49, 41, 32, 40, 40, 50, 32, 49, 41, 32, 48, 41, 41]
def slN4 : List UInt8 := [109, 117, 108, 116, 105, 112, 108, 121]
def slT4 : List UInt8 := [94, 94, 94, 40, 50, 32, 40, 49, 32, 48, 41, 41]
def slN5 : List UInt8 := [112, 111, 119, 101, 114]
def slT5 : List UInt8 := [94, 94, 40, 48, 32, 49, 41]
def slN6 : List UInt8 := [122, 101, 114, 111]
def slT6 : List UInt8 := [94, 40, 40, 48, 32, 94, 94, 94, 48, 41, 32, 94, 94, 49, 41]
def slN7 : List UInt8 := [112, 97, 105, 114]
def slT7 : List UInt8 := [94, 94, 94, 40, 40, 48, 32, 50, 41, 32, 49, 41]
def slN8 : List UInt8 := [102, 105, 114, 115, 116]
def slT8 : List UInt8 := [94, 40, 48, 32, 94, 94, 49, 41]
def slN9 : List UInt8 := [115, 101, 99, 111, 110, 100]
def slT9 : List UInt8 := [94, 40, 48, 32, 94, 94, 48, 41]
def slN10 : List UInt8 := [102, 105, 120]
def slT10 : List UInt8 := [94, 40, 94, 40, 49, 32, 40, 48, 32, 48, 41, 41, 32, 94, 40, 49, 32, 40, 48, 32, 48, 41, 41, 41]
def slL : List (List UInt8 × List UInt8) := [(slN0, slT0), (slN1, slT1), (slN2, slT2), (slN3, slT3), (slN4, slT4), (slN5, slT5), (slN6, slT6), (slN7, slT7), (slN8, slT8), (slN9, slT9), (slN10, slT10)]
theorem slL_once : ∀ j, j < 11 → ∀ k, k < 11 → j < k → (slL[j]?.map (·.1)) ≠ (slL[k]?.map (·.1)) := by decide
theorem slL_add : ∀ d ∈ slL, d.1 = slN3 → d.2 = slT3 := by decide
theorem slL_mul : ∀ d ∈ slL, d.1 = slN4 → d.2 = slT4 := by decide
theorem rdI_add : rdI 21 slT3 [] = addLm := by decide
theorem rdI_mul : rdI 12 slT4 [] = mulLm := by decide
theorem tx_add : TxT addLm slT3 := .abs (.abs (.abs (.abs (.app (a := [(2, 0), (0, 3), (0, 1)]) (.app tv3 tv1) (.app (a := [(2, 0), (0, 2), (0, 1)]) (.app tv2 tv1) tv0)))))
theorem tx_mul : TxT mulLm slT4 := .abs (.abs (.abs (.app tv2 (.app tv1 tv0))))
def slM (k : Nat) : List (ByteArray × ByteArray) := (slL.take k).map fun e => (bs e.1, bs e.2)
theorem slM_not (k : Nat) (hk : k < 11) (e : List UInt8 × List UInt8) (he : slL[k]? = some e) : bs e.1 ∉ (slM k).map (·.1) := by
  intro h
  simp only [slM, List.map_map, List.mem_map, Function.comp] at h
  obtain ⟨d, hd, e1⟩ := h
  have e2 := bs_inj e1
  obtain ⟨j, hj, hjd⟩ := List.mem_iff_getElem.1 hd
  rw [List.length_take] at hj
  rw [List.getElem_take] at hjd
  have hjk : j < k := by omega
  exact slL_once j (by omega) k hk hjk (by rw [List.getElem?_eq_getElem (by show j < 11; omega), hjd, he, Option.map_some, Option.map_some, e2])
theorem slM_succ {k : Nat} {e : List UInt8 × List UInt8} (h : slL[k]? = some e) : slM (k + 1) = slM k ++ [(bs e.1, bs e.2)] := by rw [slM, take_at h, List.map_append]; rfl
theorem sl_store (k : Nat) (hk : k < 11) (e : List UInt8 × List UInt8) (he : slL[k]? = some e) (g : Nat) (w : World) (h : MapAt w g Value.string Value.string (slM k)) :
    ∃ w', (Instr.mapUpdate 53 (.map (some g)) (.string (bs e.1)) (.string (bs e.2))).run Tryz.prog w = .ok () w' ∧ MapAt w' g Value.string Value.string (slM (k + 1)) ∧ KeepR g (g + 1) w w' ∧ w'.heap.size = w.heap.size := by
  rw [slM_succ he]
  exact h.store (keyOk_str Tryz.underlying9) Tryz.underlying53 (slM_not k hk e he) (bs e.2)
set_option maxHeartbeats 4000000 in
set_option maxRecDepth 100000 in
theorem StandardLam_c (nm tx : List UInt8) (t : LT) (n : Nat) (w : World) (hL : LibS w) (he : (nm, tx) ∈ slL) (hu : ∀ d ∈ slL, d.1 = nm → d.2 = tx) (hs : tx.length ≤ 90000) (hr : rdI tx.length tx [] = t) (hv : validL t = true) (htx : TxT t tx) (hn : t.length = n) :
    Calls Tryz.prog 9 #[.string (bs nm)] w fun e w' => ∃ A c, e = .returned (.tuple #[.slice A n c, .int .i64 0]) ∧ Rd2 w' A n t ∧ Below w.heap.size w w' := by
  obtain ⟨w1, hw1⟩ : ∃ w1, w.alloc (.map #[] 0) = w1 := ⟨_, rfl⟩
  have hm1 : MapAt w1 w.heap.size Value.string Value.string (slM 0) := by rw [← hw1]; exact MapAt.new w _ _
  have hmk : (Instr.makeMap 53 none).run Tryz.prog w = .ok (.map (some w.heap.size)) w1 := by rw [← hw1]; rfl
  have hB1 : KeepR w.heap.size (w.heap.size + 1) w w1 := by rw [← hw1]; exact KeepR.of_below (below_size.alloc (Nat.le_refl _) _)
  obtain ⟨w2, hr2, hm2, hk2, hz2⟩ := sl_store 0 (by omega) _ rfl w.heap.size w1 hm1
  obtain ⟨w3, hr3, hm3, hk3, hz3⟩ := sl_store 1 (by omega) _ rfl w.heap.size w2 hm2
  obtain ⟨w4, hr4, hm4, hk4, hz4⟩ := sl_store 2 (by omega) _ rfl w.heap.size w3 hm3
  obtain ⟨w5, hr5, hm5, hk5, hz5⟩ := sl_store 3 (by omega) _ rfl w.heap.size w4 hm4
  obtain ⟨w6, hr6, hm6, hk6, hz6⟩ := sl_store 4 (by omega) _ rfl w.heap.size w5 hm5
  obtain ⟨w7, hr7, hm7, hk7, hz7⟩ := sl_store 5 (by omega) _ rfl w.heap.size w6 hm6
  obtain ⟨w8, hr8, hm8, hk8, hz8⟩ := sl_store 6 (by omega) _ rfl w.heap.size w7 hm7
  obtain ⟨w9, hr9, hm9, hk9, hz9⟩ := sl_store 7 (by omega) _ rfl w.heap.size w8 hm8
  obtain ⟨w10, hr10, hm10, hk10, hz10⟩ := sl_store 8 (by omega) _ rfl w.heap.size w9 hm9
  obtain ⟨w11, hr11, hm11, hk11, hz11⟩ := sl_store 9 (by omega) _ rfl w.heap.size w10 hm10
  obtain ⟨w12, hr12, hm12, hk12, hz12⟩ := sl_store 10 (by omega) _ rfl w.heap.size w11 hm11
  have hr2' : (Instr.mapUpdate 53 (.map (some w.heap.size)) (.string ⟨#[116, 114, 117, 101]⟩) (.string ⟨#[94, 94, 49]⟩)).run Tryz.prog w1 = .ok () w2 := hr2
  have hr3' : (Instr.mapUpdate 53 (.map (some w.heap.size)) (.string ⟨#[102, 97, 108, 115, 101]⟩) (.string ⟨#[94, 94, 48]⟩)).run Tryz.prog w2 = .ok () w3 := hr3
  have hr4' : (Instr.mapUpdate 53 (.map (some w.heap.size)) (.string ⟨#[110, 101, 120, 116]⟩) (.string ⟨#[94, 94, 94, 40, 49, 32, 40, 40, 50, 32, 49, 41, 32, 48, 41, 41]⟩)).run Tryz.prog w3 = .ok () w4 := hr4
  have hr5' : (Instr.mapUpdate 53 (.map (some w.heap.size)) (.string ⟨#[97, 100, 100]⟩) (.string ⟨#[94, 94, 94, 94, 40, 40, 51, 32, 49, 41, 32, 40, 40, 50, 32, 49, 41, 32, 48, 41, 41]⟩)).run Tryz.prog w4 = .ok () w5 := hr5
  have hr6' : (Instr.mapUpdate 53 (.map (some w.heap.size)) (.string ⟨#[109, 117, 108, 116, 105, 112, 108, 121]⟩) (.string ⟨#[94, 94, 94, 40, 50, 32, 40, 49, 32, 48, 41, 41]⟩)).run Tryz.prog w5 = .ok () w6 := hr6
  have hr7' : (Instr.mapUpdate 53 (.map (some w.heap.size)) (.string ⟨#[112, 111, 119, 101, 114]⟩) (.string ⟨#[94, 94, 40, 48, 32, 49, 41]⟩)).run Tryz.prog w6 = .ok () w7 := hr7
  have hr8' : (Instr.mapUpdate 53 (.map (some w.heap.size)) (.string ⟨#[122, 101, 114, 111]⟩) (.string ⟨#[94, 40, 40, 48, 32, 94, 94, 94, 48, 41, 32, 94, 94, 49, 41]⟩)).run Tryz.prog w7 = .ok () w8 := hr8
  have hr9' : (Instr.mapUpdate 53 (.map (some w.heap.size)) (.string ⟨#[112, 97, 105, 114]⟩) (.string ⟨#[94, 94, 94, 40, 40, 48, 32, 50, 41, 32, 49, 41]⟩)).run Tryz.prog w8 = .ok () w9 := hr9
  have hr10' : (Instr.mapUpdate 53 (.map (some w.heap.size)) (.string ⟨#[102, 105, 114, 115, 116]⟩) (.string ⟨#[94, 40, 48, 32, 94, 94, 49, 41]⟩)).run Tryz.prog w9 = .ok () w10 := hr10
  have hr11' : (Instr.mapUpdate 53 (.map (some w.heap.size)) (.string ⟨#[115, 101, 99, 111, 110, 100]⟩) (.string ⟨#[94, 40, 48, 32, 94, 94, 48, 41]⟩)).run Tryz.prog w10 = .ok () w11 := hr11
  have hr12' : (Instr.mapUpdate 53 (.map (some w.heap.size)) (.string ⟨#[102, 105, 120]⟩) (.string ⟨#[94, 40, 94, 40, 49, 32, 40, 48, 32, 48, 41, 41, 32, 94, 40, 49, 32, 40, 48, 32, 48, 41, 41, 41]⟩)).run Tryz.prog w11 = .ok () w12 := hr12
  have BE := Lib.hid (show Below w.heap.size w w12 from (((((((((((hB1.trans hk2).trans hk3).trans hk4).trans hk5).trans hk6).trans hk7).trans hk8).trans hk9).trans hk10).trans hk11).trans hk12).below (Nat.le_refl _) (Nat.le_refl _))
  have ME := hm12
  have hlk : (Instr.lookup 53 (.map (some w.heap.size)) (.string (bs nm)) true).run Tryz.prog w12 = .ok (.tuple #[.string (bs tx), .bool true]) w12 := by
    refine ME.look_some (keyOk_str Tryz.underlying9) Tryz.underlying53 (k := bs nm) (v := bs tx) ?_ ?_
    · rw [slM, List.map_map]; exact List.mem_map.2 ⟨(nm, tx), (show (nm, tx) ∈ slL.take 11 from he), rfl⟩
    · intro v' hv
      rw [slM] at hv
      obtain ⟨d, hd, hdv⟩ := List.mem_map.1 hv
      injection hdv with h1 h2
      rw [← h2, hu d (List.mem_of_mem_take hd) (bs_inj h1)]
  have HLM := Lib.hid (lamOf_c tx t n w12 (hL.below BE.out) hs hr hv htx hn)
  have hzE := BE.out.size
  clear hL he hu hs hr hv htx ME hB1 hw1 hm1 hm2 hk2 hz2 hr2 hm3 hk3 hz3 hr3 hm4 hk4 hz4 hr4 hm5 hk5 hz5 hr5 hm6 hk6 hz6 hr6 hm7 hk7 hz7 hr7 hm8 hk8 hz8 hr8 hm9 hk9 hz9 hr9 hm10 hk10 hz10 hr10 hm11 hk11 hz11 hr11 hm12 hk12 hz12 hr12
  go_enter Tryz.func9, Tryz.ntmps9
  go_wp2_with fail
  refine HLM.out.mono ?_
  rintro e v ⟨A1, c1, rfl, _, hw9, hc9, hb9⟩
  have B9 := Lib.hid (BE.out.trans (hb9.mono hzE)); have R9 := Lib.hid (show Rd2 v A1 n t from hw9.rd)
  clear hw9 hc9 hb9
  go_wp2_with fail
  go_ret2
  exact ⟨A1, c1, rfl, R9.out, B9.out⟩
end Go.Proofs.YtebjpmmgdkepjaaGreatDoor
/-
  The standard terms of addition and multiplication: the program's answers.
-/
namespace Go.Proofs.YtebjpmmgdkepjaaGreatDoor
open Go.RowKit

theorem in_add : (slN3, slT3) ∈ slL := List.mem_of_getElem? (i := 3) rfl
theorem in_mul : (slN4, slT4) ∈ slL := List.mem_of_getElem? (i := 4) rfl
theorem len_add : slT3.length = 21 := rfl
theorem len_mul : slT4.length = 12 := rfl
theorem rl_add : rdI slT3.length slT3 [] = addLm := by rw [len_add]; exact rdI_add
theorem rl_mul : rdI slT4.length slT4 [] = mulLm := by rw [len_mul]; exact rdI_mul
theorem va_add : validL addLm = true := by decide
theorem va_mul : validL mulLm = true := by decide
set_option maxHeartbeats 1000000 in
set_option maxRecDepth 100000 in
theorem std_add (w : World) (hL : LibS w) : Calls Tryz.prog 9 #[.string (bs slN3)] w fun e w' => ∃ A c, e = .returned (.tuple #[.slice A 13 c, .int .i64 0]) ∧ Rd2 w' A 13 addLm ∧ Below w.heap.size w w' :=
  StandardLam_c slN3 slT3 addLm 13 w hL in_add slL_add (by rw [len_add]; omega) rl_add va_add tx_add rfl
set_option maxHeartbeats 1000000 in
set_option maxRecDepth 100000 in
theorem std_mul (w : World) (hL : LibS w) : Calls Tryz.prog 9 #[.string (bs slN4)] w fun e w' => ∃ A c, e = .returned (.tuple #[.slice A 8 c, .int .i64 0]) ∧ Rd2 w' A 8 mulLm ∧ Below w.heap.size w w' :=
  StandardLam_c slN4 slT4 mulLm 8 w hL in_mul slL_mul (by rw [len_mul]; omega) rl_mul va_mul tx_mul rfl
end Go.Proofs.YtebjpmmgdkepjaaGreatDoor
/-
  The laws' choice of small numbers by bytes.
-/
namespace Go.Proofs.YtebjpmmgdkepjaaGreatDoor
open Go.RowKit

/-- a slice of bytes -/
def RdY (w : World) (A : Option Addr) (n : Nat) (xs : List Int) : Prop := Rd w A n (xs.map (Value.int .u8)) ∧ ∀ x ∈ xs, 0 ≤ x ∧ x ≤ 255
theorem RdY.below {w w' : World} {A : Option Addr} {n : Nat} {xs : List Int} (h : RdY w A n xs) (hb : Below w.heap.size w w') : RdY w' A n xs := ⟨h.1.below hb, h.2⟩
theorem b10Long_c (A : Option Addr) (n c : Nat) (q : Bool) (w : World) (hq : decide ((1048576 : Int) < n) = q) : Calls Tryz.prog 6 #[.slice A n c] w fun e w' => e = .returned (.bool q) ∧ w = w' := by
  have HQ := Lib.hid hq
  clear hq
  go_enter Tryz.func6, Tryz.ntmps6
  go_wp2_with fail
  go_ret
  exact ⟨by rw [← HQ.out]; rfl, rfl⟩
theorem b10At_c (A : Option Addr) (n c : Nat) (xs : List Int) (i : Nat) (w : World) (h : RdY w A n xs) (hi : i ≤ 1) : Calls Tryz.prog 7 #[.slice A n c, .int .i64 i, .int .i64 4] w fun e w' => (∃ v : Nat, v ≤ 3 ∧ e = .returned (.int .i64 v)) ∧ w = w' := by
  by_cases hin : i < n
  · obtain ⟨ad, v, rfl, hb, hv, hc⟩ := h.1.at_ hin
    rw [List.getElem?_map] at hv
    obtain ⟨x, hx, rfl⟩ := Option.map_eq_some_iff.1 hv
    have hxb := h.2 x (List.mem_of_getElem? hx)
    obtain ⟨m, hm⟩ : ∃ m : Nat, x = (m : Int) := ⟨x.toNat, by omega⟩
    subst hm
    obtain ⟨r, hr⟩ : ∃ r, m % 4 = r := ⟨_, rfl⟩
    have hr4 : r ≤ 3 := by omega
    have ht : Int.tmod (m : Int) 4 = (r : Int) := by rw [← hr]; rfl
    have HT := Lib.hid ht
    clear h hb hx hv hr
    go_enter Tryz.func7, Tryz.ntmps7
    go_wp2_with fail
    go_ret
    exact ⟨⟨r, hr4, rfl⟩, rfl⟩
  · clear h
    obtain rfl | rfl : i = 0 ∨ i = 1 := by omega
    · go_enter Tryz.func7, Tryz.ntmps7
      go_wp2_with fail
      go_ret
      exact ⟨⟨3, by omega, rfl⟩, rfl⟩
    · go_enter Tryz.func7, Tryz.ntmps7
      go_wp2_with fail
      go_ret
      exact ⟨⟨0, by omega, rfl⟩, rfl⟩
end Go.Proofs.YtebjpmmgdkepjaaGreatDoor
/-
  Contracts of chapter 18: NumeralOfComb of the program.
-/
namespace Go.Proofs.YtebjpmmgdkepjaaGreatDoor
open Go.RowKit

set_option maxHeartbeats 1000000 in
theorem iNumeralOfComb_c (A : Option Addr) (n cp : Nat) (c : List (Int × Int)) (b : Int) (w : World) (h : Rd2 w A n c) (hn : n ≤ 1000000000) :
    Calls Tryz.prog 14 #[.slice A n cp, .int .i64 b] w fun e w' => e = .returned (.tuple #[.int .i64 (nuR c b).1, .int .i64 (nuR c b).2.1, .int .i64 (nuR c b).2.2]) ∧ Below w.heap.size w w' := by
  obtain ⟨R, hR⟩ : ∃ R, nuR c b = R := ⟨_, rfl⟩
  rw [hR]
  have H := Lib.hid h
  cases hv : validC c
  · have HR := Lib.hid (show (0, 0, 1) = R by rw [← hR, nuR, if_pos hv])
    have HV := Lib.hid hv; clear hv hR h
    go_enter Tryz.func14, Tryz.ntmps14
    go_wp2_with (go_at_call 37; refine (validComb_c _ _ _ c false _ H.out hn HV.out).mono ?_; rintro e w' ⟨rfl, hb⟩)
    go_ret3
    rw [← HR.out]
    exact ⟨rfl, hb⟩
  cases hb : inB b 1 20000
  · have HR := Lib.hid (show (0, 0, 2) = R by rw [← hR, nuR, if_neg (by rw [hv]; simp), if_pos hb])
    have HV := Lib.hid hv; clear hv hR h
    go_enter Tryz.func14, Tryz.ntmps14
    go_wp2_with (first | (go_at_call 37; refine (validComb_c _ _ _ c true _ H.out hn HV.out).mono ?_; rintro e w' ⟨rfl, hb'⟩) | (go_at_call 38; refine (budgetOkC_b _ _ (by assumption) _).mono ?_; rintro e w' ⟨rfl, rfl⟩))
    go_ret3
    rw [← HR.out]
    exact ⟨rfl, hb'⟩
  have hb1 := inB_t hb
  obtain ⟨m, rfl⟩ : ∃ m : Nat, b = m := ⟨b.toNat, by omega⟩
  have HBB := Lib.hid hb
  have hl := (validC_end hv).2.2
  rw [h.len] at hl
  obtain ⟨NN, hNN⟩ : ∃ NN, normV (varsC c) = NN := ⟨_, rfl⟩
  have HN := Lib.hid hNN
  cases hh : hasV c
  · have HR := Lib.hid (show nuN c m = R by rw [← hR, nuR, if_neg (by rw [hv]; simp), if_neg (by rw [hb]; simp), if_neg (by rw [hh]; simp), show ((m : Int)).toNat = m by omega])
    have hNl : NN = [] := by rw [← hNN]; exact (normV_nil _).2 ((varsC_nil c).2 hh)
    subst hNl
    have HV := Lib.hid hv; clear hv hR h hh hNN
    go_enter Tryz.func14, Tryz.ntmps14
    go_wp2_with (first
      | (go_at_call 37; refine (validComb_c _ _ _ c true _ H.out hn HV.out).mono ?_; rintro e w1 ⟨rfl, hb1'⟩; have R1 := Lib.hid (H.out.below hb1'); have E1 := Lib.hid hb1'; clear hb1')
      | (go_at_call 38; refine (budgetOkC_b _ _ (by assumption) _).mono ?_; rintro e w' ⟨rfl, rfl⟩)
      | (go_at_call 39; refine (combVariables_c _ _ _ c [] _ R1.out (by omega) HN.out).mono ?_; rintro e w2 ⟨A2, c2, rfl, _, _, hb2⟩; have R2 := Lib.hid (R1.out.below hb2); have E2 := Lib.hid (below_chain E1.out E1.out.size hb2); clear hb2)
      | (go_at_call 40; refine (numeralOfComb_c _ _ _ c m R _ R2.out HV.out HBB.out HR.out).mono ?_; rintro e w3 ⟨rfl, hb3⟩))
    go_ret3
    exact ⟨rfl, below_chain E2.out E2.out.size hb3⟩
  · have HR := Lib.hid (show (0, 0, 2) = R by rw [← hR, nuR, if_neg (by rw [hv]; simp), if_neg (by rw [hb]; simp), if_pos hh])
    have hNl : 1 ≤ NN.length := by
      rcases Nat.eq_zero_or_pos NN.length with e | e
      · have := (normV_nil _).1 (by rw [hNN]; exact List.length_eq_zero_iff.1 e)
        rw [varsC_nil, hh] at this; cases this
      · exact e
    obtain ⟨nl, hnl⟩ : ∃ nl, NN.length = nl := ⟨_, rfl⟩
    rw [hnl] at hNl
    have HNL := Lib.hid hnl
    have g1 : decide ((0 : Int) < (nl : Int)) = true := by rw [decide_eq_true_eq]; omega
    have HV := Lib.hid hv; clear hv hR h hh hNN hnl
    go_enter Tryz.func14, Tryz.ntmps14
    go_wp2_with (first
      | (go_at_call 37; refine (validComb_c _ _ _ c true _ H.out hn HV.out).mono ?_; rintro e w1 ⟨rfl, hb1'⟩; have R1 := Lib.hid (H.out.below hb1'); have E1 := Lib.hid hb1'; clear hb1')
      | (go_at_call 38; refine (budgetOkC_b _ _ (by assumption) _).mono ?_; rintro e w' ⟨rfl, rfl⟩)
      | (go_at_call 39; refine (combVariables_c _ _ _ c NN _ R1.out (by omega) HN.out).mono ?_; rintro e w2 ⟨A2, c2, he2, _, _, hb2⟩; rw [HNL.out] at he2; subst he2; have E2 := Lib.hid (below_chain E1.out E1.out.size hb2); clear hb2))
    go_ret3
    rw [← HR.out]
    exact ⟨rfl, E2.out⟩
end Go.Proofs.YtebjpmmgdkepjaaGreatDoor
/-
  FnNumerals returns true for every input: its walk, out of the contracts.
-/
namespace Go.Proofs.YtebjpmmgdkepjaaGreatDoor
open Go.RowKit

set_option maxHeartbeats 8000000 in
set_option maxRecDepth 100000 in
theorem walkNumerals (A : Option Addr) (n c : Nat) (xs : List Int) (w : World) (h : RdY w A n xs) (hT : LibS w) :
    Calls Tryz.prog 3 #[.slice A n c] w fun e w' => e = .returned (.bool true) ∧ Below w.heap.size w w' := by
  obtain ⟨q, hq⟩ : ∃ q, decide ((1048576 : Int) < n) = q := ⟨_, rfl⟩
  have HL := Lib.hid (b10Long_c A n c q w hq)
  have H0 := Lib.hid (show Calls Tryz.prog 7 #[.slice A n c, .int .i64 0, .int .i64 4] w fun e w' => (∃ v : Nat, v ≤ 3 ∧ e = .returned (.int .i64 v)) ∧ w = w' from b10At_c A n c xs 0 w h (by omega))
  have H1 := Lib.hid (show Calls Tryz.prog 7 #[.slice A n c, .int .i64 1, .int .i64 4] w fun e w' => (∃ v : Nat, v ≤ 3 ∧ e = .returned (.int .i64 v)) ∧ w = w' from b10At_c A n c xs 1 w h (by omega))
  have HT := Lib.hid hT
  clear h hT hq
  cases q with
  | true =>
    go_enter Tryz.func3, Tryz.ntmps3
    go_wp2_with fail
    refine HL.out.mono ?_
    rintro e w' ⟨rfl, rfl⟩
    go_wp2_with fail
    go_ret
    exact ⟨rfl, below_size⟩
  | false =>
    go_enter Tryz.func3, Tryz.ntmps3
    go_wp2_with fail
    refine HL.out.mono ?_
    rintro e w' ⟨rfl, rfl⟩
    go_wp2_with fail
    refine H0.out.mono ?_
    rintro e w' ⟨⟨a, ha, rfl⟩, rfl⟩
    go_wp2_with fail
    refine H1.out.mono ?_
    rintro e w' ⟨⟨b, hb, rfl⟩, rfl⟩
    go_wp2_with fail
    refine (NumeralLam_c a _ (by omega)).mono ?_
    rintro e w1 ⟨A1, c1, rfl, hw1, hc1, hb1⟩
    have R1 := Lib.hid (show Rd2 w1 A1 (2 * a + 3) (numLm a) from hw1.rd); have B1 := Lib.hid hb1; have hz1 := hb1.size
    clear hw1 hb1
    go_wp2_with fail
    refine (NumeralLam_c b _ (by omega)).mono ?_
    rintro e w2 ⟨A2, c2, rfl, hw2, hc2, hb2⟩
    have R2 := Lib.hid (show Rd2 w2 A2 (2 * b + 3) (numLm b) from hw2.rd); have B2 := Lib.hid (B1.out.trans (hb2.mono hz1)); have Q2 := Lib.hid (R1.out.below hb2); have hz2 := B2.out.size
    clear hw2 hb2
    obtain ⟨s, hs⟩ : ∃ s : Nat, a + b = s := ⟨_, rfl⟩
    obtain ⟨p, hp⟩ : ∃ p : Nat, a * b = p := ⟨_, rfl⟩
    have hp9 : p ≤ 9 := by rw [← hp]; exact Nat.mul_le_mul ha hb
    have hs9 : s ≤ 6 := by omega
    have v1 : IntKind.i64.wrap ((a : Int) + b) = (s : Int) := by rw [← hs]; exact IntWalk.i64_in _ (by omega)
    have v2 : IntKind.i64.wrap ((a : Int) * b) = (p : Int) := by
      rw [show (a : Int) * b = (p : Int) by rw [← hp]; push_cast; rfl]; exact IntWalk.i64_in _ (by omega)
    have HS := Lib.hid hs; have HP := Lib.hid hp
    clear hs hp
    obtain ⟨wz, hwz⟩ : ∃ wz, (w2.alloc (.cells #[.string ⟨#[97, 100, 100]⟩, .string ⟨#[109, 117, 108, 116, 105, 112, 108, 121]⟩] 9)).alloc (.cells #[.int .i64 s, .int .i64 p] 2) = wz := ⟨_, rfl⟩
    have BN := (Blk.new w2 9 #[.string ⟨#[97, 100, 100]⟩, .string ⟨#[109, 117, 108, 116, 105, 112, 108, 121]⟩])
    have BZ := Lib.hid (show Below w.heap.size w wz by rw [← hwz]; exact (B2.out.alloc hz2 _).alloc (by rw [World.size_alloc]; omega) _)
    have BW2 := (show Below w2.heap.size w2 wz by rw [← hwz]; exact (below_size.alloc (Nat.le_refl _) _).alloc (by rw [World.size_alloc]; omega) _)
    have RX := Lib.hid (Q2.out.below BW2); have RY := Lib.hid (R2.out.below BW2)
    have CN : ∀ k : Nat, wz.cell? ⟨w2.heap.size, k, none⟩ = (#[.string ⟨#[97, 100, 100]⟩, .string ⟨#[109, 117, 108, 116, 105, 112, 108, 121]⟩] : Array Value)[k]? := fun k => by
      rw [← hwz]; exact (BN.alloc _).cell k
    have CW : ∀ k : Nat, wz.cell? ⟨w2.heap.size + 1, k, none⟩ = (#[.int .i64 s, .int .i64 p] : Array Value)[k]? := fun k => by
      have h9 := (Blk.new (w2.alloc (.cells #[.string ⟨#[97, 100, 100]⟩, .string ⟨#[109, 117, 108, 116, 105, 112, 108, 121]⟩] 9)) 2 #[.int .i64 s, .int .i64 p]).cell k
      rw [World.size_alloc] at h9
      rw [← hwz]; exact h9
    have hzz : w2.heap.size + 2 ≤ wz.heap.size := by rw [← hwz, World.size_alloc, World.size_alloc]; omega
    have HCN := Lib.hid CN; have HCW := Lib.hid CW
    clear BN BW2 CN CW
    go_wp2_with fail
    go_loopw [11] (fun iv wr => ∃ k : Nat, k ≤ 2 ∧ iv = .int .i64 k ∧ Below wz.heap.size wz wr) (fun iv _ => 2 - (intOf iv).toNat)
    case atStart => exact ⟨0, by omega, rfl, below_size⟩
    case round =>
      obtain ⟨k, hk, rfl, hbr⟩ := hrel
      by_cases hlt : k < 2
      · have HK : ∃ (nm : List UInt8) (f : LT) (m v : Nat), Hid (wz.cell? ⟨w2.heap.size, k, none⟩ = some (.string (bs nm)) ∧ (∀ w', LibS w' → Calls Tryz.prog 9 #[.string (bs nm)] w' fun e w'' => ∃ A c, e = .returned (.tuple #[.slice A m c, .int .i64 0]) ∧ Rd2 w'' A m f ∧ Below w'.heap.size w' w'') ∧ validL f = true ∧ NuF (appLm f [numLm a, numLm b]) v ∧ wz.cell? ⟨w2.heap.size + 1, k, none⟩ = some (.int .i64 v) ∧ v < 10) := by
          obtain rfl | rfl : k = 0 ∨ k = 1 := by omega
          · exact ⟨slN3, addLm, 13, s, ⟨by rw [HCN.out]; rfl, std_add, by decide, by rw [← HS.out]; exact nuF_all add_all clo_add ha hb, by rw [HCW.out]; rfl, by omega⟩⟩
          · exact ⟨slN4, mulLm, 8, p, ⟨by rw [HCN.out]; rfl, std_mul, by decide, by rw [← HP.out]; exact nuF_all mul_all clo_mul ha hb, by rw [HCW.out]; rfl, by omega⟩⟩
        obtain ⟨nm, f, m, v, ⟨k1, k2, k3, k4, k5, k6⟩⟩ := HK
        have cN : wr.cell? ⟨w2.heap.size, k, none⟩ = some (.string (bs nm)) := (hbr.cell (by show w2.heap.size < _; omega)).trans k1
        have Zr := Lib.hid hbr; have hzr := hbr.size; have hzw := BZ.out.size
        have HCV := Lib.hid (fun (w' : World) (h9 : Below wz.heap.size wz w') => show w'.cell? ⟨w2.heap.size + 1, k, none⟩ = some (.int .i64 v) from (h9.cell (by show w2.heap.size + 1 < _; omega)).trans k5)
        have BR := Lib.hid (BZ.out.trans (hbr.mono BZ.out.size)); have RXr := Lib.hid (RX.out.below hbr); have RYr := Lib.hid (RY.out.below hbr)
        have HST := Lib.hid (k2 wr (HT.out.below BR.out)); have HF := Lib.hid k3
        obtain ⟨T, hT⟩ : ∃ T, appLm f [numLm a, numLm b] = T := ⟨_, rfl⟩
        rw [hT] at k4
        have HTT := Lib.hid hT
        have HTV := Lib.hid k4.valid
        obtain ⟨kk, hrun⟩ := k4.run
        obtain ⟨cc, hcx, hcc, s9, hnu⟩ := k4.comb
        have HRN := Lib.hid hrun; have HCX := Lib.hid hcx; have HNU := Lib.hid hnu
        have hT4 : T.length ≤ 400 := (validL_end k4.valid).2.2
        clear k1 k2 k3 k4 k5 hbr hT hrun hcx hnu
        go_wp2_with fail
        refine HST.out.mono ?_
        rintro e w3 ⟨A3, c3, rfl, r3, hb3⟩
        have hm4 : m ≤ 400 := by have h9 := r3.len; have h8 := (validL_end HF.out).2.2; omega
        have R3 := Lib.hid r3; have Z3 := Lib.hid (Zr.out.trans (hb3.mono hzr)); have hz3 := Z3.out.size; have RX3 := Lib.hid (RXr.out.below hb3); have RY3 := Lib.hid (RYr.out.below hb3)
        clear r3 hb3
        have T3 := Lib.hid (tm2 (ty := 25) (c1 := c1) (c2 := c2) RX3.out RY3.out)
        have Z3a := Lib.hid (Z3.out.alloc hz3 (.cells #[.slice A1 (2 * a + 3) c1, .slice A2 (2 * b + 3) c2] 25)); have hz3a := Z3a.out.size
        have HA := Lib.hid (ApplyLam_c A3 m c3 f (some ⟨w3.heap.size, 0, none⟩) 2 2 T.length _ T (w3.alloc (.cells #[.slice A1 (2 * a + 3) c1, .slice A2 (2 * b + 3) c2] 25)) (R3.out.alloc _) HF.out T3.out (by omega) (fun p hp => by
          simp only [List.mem_cons, List.not_mem_nil, or_false] at hp
          rcases hp with rfl | rfl
          · exact (nvL_small a (by omega)).2
          · exact (nvL_small b (by omega)).2) HTT.out HTV.out rfl)
        go_wp2_with fail
        refine HA.out.mono ?_
        rintro e w4 ⟨A4, c4, rfl, r4, hb4⟩
        have R4 := Lib.hid r4; have Z4 := Lib.hid (Z3a.out.trans (hb4.mono hz3a)); have hz4 := Z4.out.size
        have HNO := Lib.hid (show Calls Tryz.prog 11 #[.slice A4 T.length c4, .int .i64 200] w4 (RcOut (numLm v, (kk : Int), true, 0) w4) by rw [← HRN.out]; exact iNormalizeLam_c A4 T.length c4 T 200 w4 r4 (by omega))
        clear r4 hb4
        go_wp2_with fail
        refine HNO.out.mono ?_
        rintro e w5 ⟨A5, n5, c5, rfl, hw5, hn5, hb5⟩
        have R5 := (show Rd2 w5 A5 n5 (numLm v) from hw5.rd); have Z5 := Lib.hid (Z4.out.trans (hb5.mono hz4)); have hz5 := Z5.out.size; have R45 := Lib.hid (R4.out.below hb5)
        have HNV := Lib.hid (show Calls Tryz.prog 12 #[.slice A5 n5 c5] w5 fun e w' => e = .returned (.tuple #[.int .i64 v, .int .i64 0]) ∧ Below w5.heap.size w5 w' by
          have h9 := NumeralValue_c A5 n5 c5 (numLm v) w5 R5 (nvL_small v k6).2
          rw [(nvL_small v k6).1, if_neg (by omega), if_neg (by omega)] at h9; exact h9)
        clear hw5 hb5 R5
        go_wp2_with fail
        refine HNV.out.mono ?_
        rintro e w6 ⟨rfl, hb6⟩
        have Z6 := Lib.hid (Z5.out.trans (hb6.mono hz5)); have hz6 := Z6.out.size; have R46 := Lib.hid (R45.out.below hb6)
        have cW6 := HCV.out w6 Z6.out
        clear hb6
        have HLC := Lib.hid (LamToComb_c A4 T.length c4 T (some cc) w6 R46.out HTV.out HCX.out)
        go_wp2_with fail
        refine HLC.out.mono ?_
        rintro e w7 ⟨⟨A7, c7, rfl, r7⟩, hb7⟩
        have Z7 := Lib.hid (Z6.out.trans (hb7.mono hz6)); have hz7 := Z7.out.size
        have HNB := Lib.hid (iNumeralOfComb_c A7 cc.length c7 cc 400 w7 r7 (by omega))
        clear r7 hb7 cW6
        rcases HNU.out with hnu | hnu
        · rw [hnu] at HNB
          clear hnu
          go_wp2_with fail
          refine HNB.out.mono ?_
          rintro e w8 ⟨rfl, hb8⟩
          have Z8 := Lib.hid (Z7.out.trans (hb8.mono hz7))
          have cW8 := HCV.out w8 Z8.out
          clear hb8
          go_wp2_with fail
          go_roundw
          case rel => exact ⟨k + 1, by omega, by go_num, Z8.out⟩
          case measure => simp [intOf]; omega
        · rw [hnu] at HNB
          clear hnu
          go_wp2_with fail
          refine HNB.out.mono ?_
          rintro e w8 ⟨rfl, hb8⟩
          have Z8 := Lib.hid (Z7.out.trans (hb8.mono hz7))
          have cW8 := HCV.out w8 Z8.out
          clear hb8
          go_wp2_with fail
          go_roundw
          case rel => exact ⟨k + 1, by omega, by go_num, Z8.out⟩
          case measure => simp [intOf]; omega
      · obtain rfl : k = 2 := by omega
        have BE := Lib.hid (BZ.out.trans (hbr.mono BZ.out.size))
        clear hbr
        go_wp2_with fail
        go_ret
        exact ⟨rfl, BE.out⟩
end Go.Proofs.YtebjpmmgdkepjaaGreatDoor
/-
  How the laws' arguments read: each type's value and what its memory holds.
-/
namespace Go.Proofs.YtebjpmmgdkepjaaGreatDoor
open Go.ChangeShapes Go.WideShapes Go.ChangeAt Go.RowKit Go.Joins

def i64ok (x : Int) : Prop := -9223372036854775808 ≤ x ∧ x ≤ 9223372036854775807
theorem i64ok_of {x : Int} (h : (Lit.int .i64 x).wf = true) : i64ok x := by
  have := bounds_i64 h
  unfold i64ok; omega

section
variable {H : Type} {enc : TypeId × Value → H} {W : World} {fuel : Nat} {y : DataW H × List MemPlace}

theorem trod_I64 {c : Value} (h : DataW.trod enc Tryz.prog W 0 (fun _ => true) true fuel 2 [c] = some y) : ∃ x, c = .int .i64 x ∧ i64ok x := by
  obtain ⟨x, e, _, hw⟩ := DataW.trod_int Tryz.underlying2 h
  injection e with e
  exact ⟨x, e, i64ok_of hw⟩

theorem trod_I64S {c : Value} (h : DataW.trod enc Tryz.prog W 0 (fun _ => true) true fuel 29 [c] = some y) :
    ∃ A n cp xs, c = .slice A n cp ∧ RdI W A n xs ∧ n ≤ 9223372036854775807 ∧ ∀ x ∈ xs, i64ok x := by
  rcases open_ints Tryz.underlying29 Tryz.underlying2 (by kernel_rfl) h with ⟨hcs, _⟩ | ⟨a, l, cp, zs, hcs, _, hl, hm, hz, _, hcell, hwz⟩
  · injection hcs with hcs
    exact ⟨none, 0, 0, [], hcs, RdI.nil, by omega, by simp⟩
  · injection hcs with hcs
    unfold maxLen at hm
    rw [if_pos rfl] at hz
    refine ⟨some a, l, cp, zs.take l, hcs, ⟨by simp; omega, fun hl0 => ⟨a, rfl, ?_, fun j v hj => ?_⟩⟩, by omega, fun x hx => i64ok_of (hwz x (List.mem_of_mem_take hx))⟩
    · have := World.block_lt_of_cell? W _ (hcell 0 (by omega))
      rwa [block_add] at this
    · rw [List.getElem?_map, List.getElem?_take] at hj
      split at hj
      · rename_i hjl
        rw [hcell j (by omega)]
        rw [List.getElem?_eq_getElem (by omega)] at hj
        simp at hj
        rw [← hj]
        simp [List.getD_eq_getElem?_getD, List.getElem?_eq_getElem (show j < zs.length by omega)]
      · simp at hj
end

section
variable {H : Type} {enc : TypeId × Value → H} {W : World} {base : Nat} {v : Value} {d : DataW H} {p : List MemPlace}

set_option maxRecDepth 100000 in
theorem open_I64S (hv : Value.okWide Tryz.prog W .any base 29 v) (h : DataW.Trod enc Tryz.prog W 0 (fun _ => true) true 29 v d p) :
    ∃ A n cp xs, v = .slice A n cp ∧ RdI W A n xs ∧ n ≤ 9223372036854775807 ∧ ∀ x ∈ xs, i64ok x := by
  obtain ⟨a, l, c, rfl⟩ := okWide_slice Tryz.underlying29 hv
  obtain ⟨fuel, hf⟩ := h
  exact trod_I64S (c := .slice a l c) (by simpa [Value.cells] using hf)

end
end Go.Proofs.YtebjpmmgdkepjaaGreatDoor
/-
  How a law's argument of type []byte reads.
-/
namespace Go.Proofs.YtebjpmmgdkepjaaGreatDoor
open Go.ChangeShapes Go.WideShapes Go.ChangeAt Go.RowKit Go.Joins

section
variable {H : Type} {enc : TypeId × Value → H} {W : World} {base : Nat} {v : Value} {d : DataW H} {p : List MemPlace}
set_option maxRecDepth 100000 in
theorem open_ByteS (hv : Value.okWide Tryz.prog W .any base 22 v) (h : DataW.Trod enc Tryz.prog W 0 (fun _ => true) true 22 v d p) :
    ∃ A n cp xs, v = .slice A n cp ∧ RdY W A n xs := by
  obtain ⟨a0, l0, c0, rfl⟩ := okWide_slice Tryz.underlying22 hv
  obtain ⟨fuel, hf⟩ := h
  have hf' : DataW.trod enc Tryz.prog W 0 (fun _ => true) true fuel 22 [.slice a0 l0 c0] = some (d, p) := by simpa [Value.cells] using hf
  rcases open_ints Tryz.underlying22 Tryz.underlying5 (by kernel_rfl) hf' with ⟨hcs, _⟩ | ⟨a, l, cp, zs, hcs, _, hl, hm, hz, _, hcell, hwz⟩
  · injection hcs with hcs
    exact ⟨none, 0, 0, [], hcs, ⟨by simp, fun h0 => absurd h0 (by omega)⟩, by simp⟩
  · injection hcs with hcs
    rw [if_pos rfl] at hz
    refine ⟨some a, l, cp, zs.take l, hcs, ⟨by simp; omega, fun hl0 => ⟨a, rfl, ?_, fun j v hj => ?_⟩⟩, fun x hx => bounds_u8 (hwz x (List.mem_of_mem_take hx))⟩
    · have := World.block_lt_of_cell? W _ (hcell 0 (by omega))
      rwa [block_add] at this
    · rw [List.getElem?_map, List.getElem?_take] at hj
      split at hj
      · rename_i hjl
        rw [hcell j (by omega)]
        rw [List.getElem?_eq_getElem (by omega)] at hj
        simp at hj
        rw [← hj]
        simp [List.getD_eq_getElem?_getD, List.getElem?_eq_getElem (show j < zs.length by omega)]
      · simp at hj
end
end Go.Proofs.YtebjpmmgdkepjaaGreatDoor
