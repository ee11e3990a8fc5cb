/-
  Texts of automata, second part: slices.Chunk (a range over a function), the program's DfaText.
-/
import Derived.Test.YtdendllginlidaaDoorCTg
import Derived.RangeFuncNested
import Derived.RangeFuncBound
import Derived.RangeFuncCalls
import Derived.RangeFuncLeaves
import Derived.RangeFuncBox
import Derived.RangeFuncFrom
import Derived.RangeFuncWrites
import Derived.Shelf.Abstract
import Derived.Shelf.RegionOpen
import Derived.WalkKit
import Derived.OwnWalkIn
import Derived.TacticsInMore
import Derived.LoopNIn
import Derived.LoopIn
import Derived.Maps.AppendAt
namespace Go.Proofs.YtdendllginlidaaDoor
open Go.RowKit Go.Shelf
attribute [local go_sem] Oper.semAt_some

def chEnc (g s : Nat) {st : Nat} (x : Fin st) : Array Value := #[.slice (some ⟨g, x.1 * s, none⟩) s s]
def chUpto (st k : Nat) : List (Fin st) := (List.finRange st).take k
theorem chUpto_len {st k : Nat} (h : k ≤ st) : (chUpto st k).length = k := by simp [chUpto]; omega
theorem chUpto_succ {st k : Nat} (h : k < st) : chUpto st (k + 1) = chUpto st k ++ [⟨k, h⟩] := by
  rw [chUpto, chUpto, List.take_add_one]
  simp [h]
theorem chUpto_all (st : Nat) : chUpto st st = List.finRange st := List.take_of_length_le (by simp)
/-- two blocks stay -/
def KpC (a b : Nat) (W W' : World) : Prop := W'.heap[a]? = W.heap[a]? ∧ W'.heap[b]? = W.heap[b]?
theorem cell_heap {W W' : World} {a : Nat} {v : Value} (h : W'.heap[a]? = W.heap[a]?) (hc : W.cell? ⟨a, 0, none⟩ = some v) : W'.cell? ⟨a, 0, none⟩ = some v := by
  simp only [World.cell?] at hc ⊢
  rw [h]; exact hc
theorem KpC.trans {a b : Nat} {A B C : World} (h : KpC a b A B) (k : KpC a b B C) : KpC a b A C := ⟨k.1.trans h.1, k.2.trans h.2⟩
set_option maxRecDepth 100000 in
set_option maxHeartbeats 2000000 in
theorem Chunk1_in (F : Fence) (n : Nat) (hf : F.fn 43) (hro : F.round = none) (hn : 1 ≤ n) (l Bs Bn g s st c : Nat) (hs : 1 ≤ s ∧ s ≤ 1000) (hst : st ≤ 1000) (hc : st * s ≤ c) (J Jx : List (Fin st) → World → Prop) (B : Nat) (hJ : AbidesFrom B J)
    (hY : ∀ pre x W, J pre W → pre.length < st → YieldAt F (n - 1) Tryd.prog l (chEnc g s x) W fun e W' =>
      (e = .returned (.bool true) ∧ J (pre ++ [x]) W' ∧ KpC Bs Bn W W') ∨ (e = .returned (.bool false) ∧ Jx (pre ++ [x]) W'))
    (W : World) (hBs : W.cell? ⟨Bs, 0, none⟩ = some (.slice (some ⟨g, 0, none⟩) (st * s) c)) (hBn : W.cell? ⟨Bn, 0, none⟩ = some (.int .i64 s)) (h0 : J [] W) :
    CallsIn F n Tryd.prog 43 #[.func (.yield l) #[] #[], .pointer (some ⟨Bs, 0, none⟩), .pointer (some ⟨Bn, 0, none⟩)] W fun e W' => (∃ v, e = .returned v) ∧
      ((∃ ys, ys = List.finRange st ∧ J ys W') ∨ (∃ pre, (∃ k, k ≤ st ∧ pre = chUpto st k) ∧ Jx pre W')) := by
  obtain ⟨L, hL⟩ : ∃ L, st * s = L := ⟨_, rfl⟩
  have hL2 : L ≤ 1000000 := by rw [← hL]; exact Nat.le_trans (Nat.mul_le_mul hst hs.2) (by omega)
  have HL := Lib.hid hL
  rw [hL] at hBs hc
  clear hL
  refine callsIn_of_wp Tryd.func43 rfl hf ?_ hro
  simp only [Tryd.ntmps43, List.size_toArray, List.length_cons, List.length_nil, Nat.reduceAdd, Nat.reduceSub, Array.replicate_succ, Array.replicate_zero, List.push_toArray, List.append_toArray, List.nil_append, List.cons_append]
  gi_wp2
  gi_loopw [4] (fun i wr => ∃ k i' : Nat, k ≤ st ∧ i = .int .i64 i' ∧ Hid (k * s = i') ∧ J (chUpto st k) wr ∧ KpC Bs Bn W wr) (fun i _ => L - (intOf i).toNat)
  case atStart => exact ⟨0, 0, Nat.zero_le _, rfl, by unfold Hid; simp, h0, rfl, rfl⟩
  case round =>
    obtain ⟨k, i, hk, rfl, hi, hJs, hnx⟩ := hrel
    have q1 : wr.cell? ⟨Bs, 0, none⟩ = some (.slice (some ⟨g, 0, none⟩) L c) := cell_heap hnx.1 hBs
    have q2 : wr.cell? ⟨Bn, 0, none⟩ = some (.int .i64 s) := cell_heap hnx.2 hBn
    by_cases hlt : k < st
    · have hiL : i + s ≤ L := by
        rw [← hi.out, ← HL.out, ← Nat.succ_mul]; exact Nat.mul_le_mul_right s hlt
      have hHi := hi.out
      obtain ⟨fn, tmps, assign, body, hy, hR⟩ := hY _ ⟨k, hlt⟩ wr.drew (hJ _ _ _ none hJs ⟨rfl, rfl, rfl, Nat.le_refl _, fun _ _ _ => rfl⟩ (fun r e => by cases e)) (by rw [chUpto_len hk]; exact hlt)
      simp only [chEnc] at hy
      rw [hHi] at hy
      clear hHi
      have hiL' : i < L := by omega
      have hmin : min (s : Int) ((L - i : Nat) : Int) = (s : Int) := by omega
      have q3 : wr.drew.cell? ⟨Bs, 0, none⟩ = some (.slice (some ⟨g, 0, none⟩) L c) := q1
      have q4 : wr.drew.cell? ⟨Bn, 0, none⟩ = some (.int .i64 s) := q2
      gi_wp2
      gi_region
      all_goals
        gi_wp2
        refine hR.mono ?_
        rintro e W3 (⟨rfl, hJ3, hk3⟩ | ⟨rfl, hJx3⟩)
        · have q5 : W3.cell? ⟨Bn, 0, none⟩ = some (.int .i64 s) := cell_heap hk3.2 q4
          gi_wp2
          go_roundw
          case rel => exact ⟨k + 1, i + s, by omega, by go_num, by unfold Hid; rw [Nat.succ_mul, hi.out], by rw [chUpto_succ hlt]; exact hJ3, KpC.trans hnx hk3⟩
          case measure => simp [intOf]; omega
        · gi_wp2
          refine bodyPost_ret (results_none rfl _ _ _) rfl ?_
          exact ⟨⟨_, rfl⟩, .inr ⟨_, ⟨k + 1, by omega, (chUpto_succ hlt).symm⟩, hJx3⟩⟩
    · have hkk : k = st := by omega
      have hiL : i = L := by rw [← hi.out, hkk]; exact HL.out
      subst hkk hiL
      gi_wp2
      go_end0
      exact ⟨⟨_, rfl⟩, .inl ⟨_, rfl, by rw [← chUpto_all]; exact hJs⟩⟩
set_option maxRecDepth 100000 in
theorem Chunk_c (A : Option Addr) (n c s : Nat) (w : World) (hs : 1 ≤ s ∧ s ≤ 1000) :
    Calls Tryd.prog 30 #[.slice A n c, .int .i64 s] w fun e w' => e = .returned (.func (.func 43) #[] #[.pointer (some ⟨w.heap.size, 0, none⟩), .pointer (some ⟨w.heap.size + 1, 0, none⟩)]) ∧ w' = (w.alloc (.cells #[.slice A n c] 22)).alloc (.cells #[.int .i64 s] 3) := by
  have g1 : decide (s < 1) = false := by simp; omega
  go_enter Tryd.func30, Tryd.ntmps30
  go_wp2_with fail
  go_ret
  exact ⟨rfl, rfl⟩
theorem Chunk_stops (n : Nat) (hn : 1 ≤ n) (Bs Bn g s st c : Nat) (hs : 1 ≤ s ∧ s ≤ 1000) (hst : st ≤ 1000) (hc : st * s ≤ c) (w : World) (hb1 : Bs < w.heap.size) (hb2 : Bn < w.heap.size)
    (hBs : w.cell? ⟨Bs, 0, none⟩ = some (.slice (some ⟨g, 0, none⟩) (st * s) c)) (hBn : w.cell? ⟨Bn, 0, none⟩ = some (.int .i64 s)) :
    SeqStopsK Fence.wide n Tryd.prog 43 #[.pointer (some ⟨Bs, 0, none⟩), .pointer (some ⟨Bn, 0, none⟩)] (chEnc g s (st := st)) (KpC Bs Bn) (fun ys => ys = List.finRange st) (fun pre => ∃ k, k ≤ st ∧ pre = chUpto st k) st w := fun l J Jx W hW hJ _ hY h0 => by
  exact Chunk1_in Fence.wide n trivial rfl hn l Bs Bn g s st c hs hst hc J Jx W.heap.size hJ hY W ((hW.cell (p := ⟨Bs, 0, none⟩) hb1).trans hBs) ((hW.cell (p := ⟨Bn, 0, none⟩) hb2).trans hBn) h0
end Go.Proofs.YtdendllginlidaaDoor
