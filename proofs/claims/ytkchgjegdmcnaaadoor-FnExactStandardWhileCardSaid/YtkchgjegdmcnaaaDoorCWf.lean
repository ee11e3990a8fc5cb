/-
  Contracts of chapter 22: copies of programs, orders.
-/
import Derived.Test.YtkchgjegdmcnaaaDoorCWc
import Derived.Test.YtkchgjegdmcnaaaDoorOwnS
import Derived.Test.YtkchgjegdmcnaaaDoorC12a
namespace Go.Proofs.YtkchgjegdmcnaaaDoor
open Go.RowKit

theorem hdC_one (t : Ct) : ∀ u ∈ hdC t, u.oneCell' = true := by intro u hu; simp [hdC] at hu; rcases hu with rfl | rfl | rfl | rfl <;> rfl
/-- a command more, out of a block that was just laid -/
theorem wp_appCmd {ops : Array Oper} {rest : List Oper} {o : Oper} {a : Act} {w : World} {Q : Exit → Act → World → Prop} (hgd : o.guard = none) (s x : Operand)
    (ho : o.op = .call { callee := .builtin .append, args := #[s, x], argTypes := #[25, 25] })
    (B : Nat) (A : Option Addr) (n c : Nat) (ps : List Ct) (hs : a.eval s = .slice A n c) (w0 : World) (h0 : OwnS w0 B 42 4 A n c (ps.flatMap hdC) (ps.map bodyC)) (hB0 : B ≤ w0.heap.size) (hb : Below w0.heap.size w0 w)
    (g : Nat) (t : Ct) (hx : a.eval x = .slice (some ⟨g, 0, none⟩) 1 1) (hg : Blk w g 42 #[i64 t.kd, i64 t.vr, i64 t.ln, .slice t.A t.n t.c])
    (hw : Wr w w0.heap.size w.heap.size t.A (t.n * 2) (t.xs.flatMap enc2)) (hlen : n ≤ 1000000000)
    (h : ∀ A' cap w', OwnS w' B 42 4 A' (n + 1) cap ((ps ++ [t]).flatMap hdC) ((ps ++ [t]).map bodyC) → Below B w w' → w.heap.size ≤ w'.heap.size → (∃ g', A' = some ⟨g', 0, none⟩) → (∀ b, b < w.heap.size → (∀ ad', A = some ad' → ad'.block ≠ b) → w'.heap[b]? = w.heap[b]?) →
      wpList Tryd.prog ops Q rest (a.put o.dst (.slice A' (n + 1) cap)) w') : wpList Tryd.prog ops Q (o :: rest) a w := by
  refine wp_app hgd s x 25 42 (.agg #[.int .i64 0, .int .i64 0, .int .i64 0, .slice none 0 0]) 4 48 ho Tryd.underlying25 info_Command rfl (by omega) B A n c (ps.flatMap hdC) hs (h0.keep hb).own ⟨g, 0, none⟩ 1 1 (hdC t) hx (by omega) (by rfl) ?_ (hdC_one t) (by omega) (by omega) (by have := hb.size; omega) ?_
  · intro j u hj
    rw [head_add, hg.cell j, ← hj, hdC]
    exact List.getElem?_toArray
  · intro g' cap w3 own3 hb3 hk3 hg3 hz3
    refine h (some ⟨g', 0, none⟩) cap w3 ?_ hb3 hz3 ⟨g', rfl⟩ hk3
    rw [List.flatMap_append, List.map_append]
    have := h0.push (s := bodyC t) hB0 hb hw own3 hk3 hg3 hz3
    simpa using this

/-- a program's copy: what it is, in memory of the call's own -/
def CmdOut (K : Cmd) (w : World) (e : Ending) (w' : World) : Prop := ∃ t' : Ct, e = .returned (.agg #[i64 t'.kd, i64 t'.vr, i64 t'.ln, .slice t'.A t'.n t'.c]) ∧ datC t' = K ∧ Wr w' w.heap.size w'.heap.size t'.A (t'.n * 2) (t'.xs.flatMap enc2) ∧ t'.n ≤ 1000000 ∧ t'.n ≤ t'.c ∧ Below w.heap.size w w'
/-- a program that a call hands back, and a code -/
def CmOut2 (R : List Cmd × Int) (w : World) (e : Ending) (w' : World) : Prop :=
  ∃ A n c ps, e = .returned (.tuple #[.slice A n c, .int .i64 R.2]) ∧ WrS w' w.heap.size w'.heap.size (sgCS A n ps) ∧ (n ≤ 100 ∧ (∀ t ∈ ps, t.n ≤ 1000000) ∧ sumC ps ≤ 300000000 ∧ ps.map datC = R.1) ∧ Below w.heap.size w w'
theorem CmOut2.bad {w w' : World} (k : Int) (h : Below w.heap.size w w') : CmOut2 ([], k) w (.returned (.tuple #[.slice none 0 0, .int .i64 k])) w' :=
  ⟨none, 0, 0, [], rfl, WrS.one (A := none) (n := 0 * 4) (vs := []) Wr.nil, ⟨by omega, by simp, by simp [sumC], rfl⟩, h⟩
theorem sumE_bd : ∀ (ps : List Ct) (m : Nat), (∀ t ∈ ps, t.n ≤ m) → sumE ps ≤ ps.length * m
  | [], m, _ => by simp [sumE]
  | t :: l, m, h => by
    have h1 := h t (by simp)
    have h2 := sumE_bd l m (fun u hu => h u (by simp [hu]))
    rw [sumE, List.length_cons, Nat.succ_mul]; omega
theorem CmOut2.good {w w1 : World} {R : List Cmd} {A : Option Addr} {n c : Nat} {js : List Ct} (h : OwnS w1 w.heap.size 42 4 A n c (js.flatMap hdC) (js.map bodyC)) (hn : n ≤ 100) (hi : ∀ t ∈ js, t.n ≤ 1000000) (hj : js.map datC = R) (hb : Below w.heap.size w w1) : CmOut2 (R, 0) w (.returned (.tuple #[.slice A n c, .int .i64 0])) w1 := by
  have h1 : WrS w1 w.heap.size w1.heap.size (sgCS A n js) := h.wrS
  have h2 := RdCS.len h1.rd
  have h3 := sumE_bd js 1000000 hi
  exact ⟨A, n, c, js, rfl, h1, ⟨hn, hi, by rw [sumC_eq, h2]; rw [h2] at h3; omega, hj⟩, hb⟩
def CmdsOut (D : List Cmd) (B : Nat) (n : Nat) (A : Option Addr) (c : Nat) (js : List Ct) (w' : World) : Prop := OwnS w' B 42 4 A n c (js.flatMap hdC) (js.map bodyC) ∧ js.map datC = D
end Go.Proofs.YtkchgjegdmcnaaaDoor
