/-
  Contracts of chapter 28 (automata): the abstraction of a configuration.
-/
import Derived.Test.YtmmgejnhfpfmnaaC05r
import Derived.Test.YtmmgejnhfpfmnaaC28c
import Derived.Test.YtmmgejnhfpfmnaaC26b
import Derived.Test.YtmmgejnhfpfmnaaLawDfa
namespace Go.Proofs.Ytmmgejnhfpfmnaa
open Go.RowKit

def absL (sy : Int) (xl xr : List Int) (s : Int) (xs ys : List Int) : List Int := [runF sy xl xs.reverse 0, s, ys.getD 0 0, runF sy xr ys.tail.reverse 0]
def readyB (sy st : Int) (rs : List Rule3) (sl : Int) (xl : List Int) (sr : Int) (xr : List Int) : Bool := machB sy st rs && (dfaB sl sy xl && dfaB sr sy xr)
def absR (sy st : Int) (rs : List Rule3) (sl : Int) (xl : List Int) (sr : Int) (xr : List Int) (s : Int) (xs ys : List Int) : List Int × Int :=
  if readyB sy st rs sl xl sr xr && confB sy st s xs ys then (absL sy xl xr s xs ys, 0) else ([], 1)
/-- an automaton behind a pointer -/
structure DfaP (w : World) (g : Nat) (st : Int) (A : Option Addr) (n c : Nat) (xs : List Int) : Prop where
  c0 : w.cell? ⟨g, 0, none⟩ = some (.int .i64 st)
  c1 : w.cell? ⟨g, 1, none⟩ = some (.slice A n c)
  rd : RdI w A n xs
theorem DfaP.below {w w' : World} {g : Nat} {st : Int} {A : Option Addr} {n c : Nat} {xs : List Int} (h : DfaP w g st A n c xs) (hb : Below w.heap.size w w') : DfaP w' g st A n c xs := ⟨keepc hb h.c0, keepc hb h.c1, h.rd.below hb⟩
set_option maxHeartbeats 2000000 in
theorem l28Ready_c (g : Nat) (sy st : Int) (A : Option Addr) (n cp : Nat) (rs : List Rule3) (gl : Nat) (sl : Int) (Al : Option Addr) (nl cl : Nat) (xl : List Int) (gr : Nat) (sr : Int) (Ar : Option Addr) (nr cr : Nat) (xr : List Int) (q : Bool) (w : World)
    (h : MachP w g sy st A n cp rs) (hl : DfaP w gl sl Al nl cl xl) (hr : DfaP w gr sr Ar nr cr xr) (hn : n ≤ 1000000000) (hnl : nl ≤ 1000000000) (hnr : nr ≤ 1000000000) (hq : readyB sy st rs sl xl sr xr = q) :
    Calls Try.prog 58 #[.pointer (some ⟨g, 0, none⟩), .pointer (some ⟨gl, 0, none⟩), .pointer (some ⟨gr, 0, none⟩)] w fun e w' => e = .returned (.bool q) ∧ Below w.heap.size w w' := by
  obtain ⟨u, hu⟩ : ∃ u, machB sy st rs = u := ⟨_, rfl⟩
  obtain ⟨v, hv⟩ : ∃ v, dfaB sl sy xl = v := ⟨_, rfl⟩
  obtain ⟨x, hx⟩ : ∃ x, dfaB sr sy xr = x := ⟨_, rfl⟩
  have HQ := Lib.hid (show (u && (v && x)) = q by rw [← hq, readyB, hu, hv, hx])
  have H := Lib.hid h; have HL := Lib.hid hl; have HR := Lib.hid hr
  have HV := Lib.hid hv; have HX := Lib.hid hx
  clear h hl hr hq hv hx
  go_enter Try.func58, Try.ntmps58
  go_wp2_with fail
  refine (l05Is_c g sy st A n cp rs u _ (by exact H.out) hn hu).mono ?_
  rintro e w1 ⟨rfl, hb⟩
  have B1 := Lib.hid hb
  have M1 := Lib.hid (H.out.below hb); have L1 := Lib.hid (HL.out.below hb); have R1 := Lib.hid (HR.out.below hb)
  have m0 := M1.out.c0
  clear hb hu
  cases u
  · go_wp2_with fail
    go_ret
    exact ⟨by rw [← HQ.out]; rfl, B1.out⟩
  go_wp2_with fail
  refine (l28Is_c gl sl sy Al nl cl xl _ (by exact L1.out.c0) (by exact L1.out.c1) (by exact L1.out.rd) (by omega)).mono ?_
  rw [HV.out]
  rintro e w2 ⟨rfl, ⟨k, rfl⟩⟩
  cases v
  · go_wp2_with fail
    go_ret
    exact ⟨by rw [← HQ.out]; rfl, below_drewN B1.out _⟩
  go_wp2_with fail
  refine (l28Is_c gr sr sy Ar nr cr xr _ (by exact R1.out.c0) (by exact R1.out.c1) (by exact Rd.drewN R1.out.rd _) (by omega)).mono ?_
  rw [HX.out]
  rintro e w2 ⟨rfl, ⟨k2, rfl⟩⟩
  go_wp2_with fail
  go_ret
  exact ⟨by rw [← HQ.out]; rfl, below_drewN B1.out _⟩
theorem confB_parts {sy st s : Int} {xs ys : List Int} (h : confB sy st s xs ys = true) : (∀ x ∈ xs, 0 ≤ x ∧ x ≤ sy - 1) ∧ (∀ x ∈ ys, 0 ≤ x ∧ x ≤ sy - 1) ∧ (xs.length : Int) ≤ 200 ∧ (ys.length : Int) ≤ 200 := by
  simp only [confB, sideB, Bool.and_eq_true, decide_eq_true_eq] at h
  exact ⟨allB_mem h.1.2.1.2, allB_mem h.2.1.2, h.1.2.1.1, h.2.1.1⟩
theorem readyB_parts {sy st : Int} {rs : List Rule3} {sl : Int} {xl : List Int} {sr : Int} {xr : List Int} (h : readyB sy st rs sl xl sr xr = true) : machB sy st rs = true ∧ DfaOk sl sy xl ∧ DfaOk sr sy xr := by
  simp only [readyB, Bool.and_eq_true] at h
  exact ⟨h.1, DfaOk.of h.2.1, DfaOk.of h.2.2⟩
/-- four boxes, one behind the other -/
theorem boxes4 (w : World) (t0 t1 t2 t3 : TypeId) (a0 a1 a2 a3 : Array Value) : ∃ w0, (((w.alloc (.cells a0 t0)).alloc (.cells a1 t1)).alloc (.cells a2 t2)).alloc (.cells a3 t3) = w0 ∧ Blk w0 w.heap.size t0 a0 ∧ Blk w0 (w.heap.size + 1) t1 a1 ∧ Blk w0 (w.heap.size + 1 + 1) t2 a2 ∧ Blk w0 (w.heap.size + 1 + 1 + 1) t3 a3 ∧ Below w.heap.size w w0 ∧ w0.heap.size = w.heap.size + 1 + 1 + 1 + 1 := by
  refine ⟨_, rfl, ((((Blk.new w _ _).alloc _).alloc _).alloc _), ?_, ?_, ?_, ?_, by simp⟩
  · have := ((Blk.new (w.alloc (.cells a0 t0)) t1 a1).alloc (.cells a2 t2)).alloc (.cells a3 t3)
    rwa [World.size_alloc] at this
  · have := (Blk.new ((w.alloc (.cells a0 t0)).alloc (.cells a1 t1)) t2 a2).alloc (.cells a3 t3)
    rwa [World.size_alloc, World.size_alloc] at this
  · have := Blk.new (((w.alloc (.cells a0 t0)).alloc (.cells a1 t1)).alloc (.cells a2 t2)) t3 a3
    rwa [World.size_alloc, World.size_alloc, World.size_alloc] at this
  · exact (((below_size.alloc (Nat.le_refl _) _).alloc (by simp) _).alloc (by simp; omega) _).alloc (by simp; omega) _
/-- a machine with two automata -/
abbrev autV (sy st : Int) (A : Option Addr) (n cp : Nat) (sl : Int) (Al : Option Addr) (nl cl : Nat) (sr : Int) (Ar : Option Addr) (nr cr : Nat) : Value := .agg #[.int .i64 sy, .int .i64 st, .slice A n cp, .int .i64 sl, .slice Al nl cl, .int .i64 sr, .slice Ar nr cr]
set_option maxHeartbeats 2000000 in
theorem autValid_c (sy st : Int) (A : Option Addr) (n cp : Nat) (rs : List Rule3) (sl : Int) (Al : Option Addr) (nl cl : Nat) (xl : List Int) (sr : Int) (Ar : Option Addr) (nr cr : Nat) (xr : List Int) (q : Bool) (w : World)
    (h : Rd3 w A n rs) (hl : RdI w Al nl xl) (hr : RdI w Ar nr xr) (hn : n ≤ 1000000000) (hnl : nl ≤ 1000000000) (hnr : nr ≤ 1000000000) (hq : readyB sy st rs sl xl sr xr = q) :
    Calls Try.prog 60 #[autV sy st A n cp sl Al nl cl sr Ar nr cr] w fun e w' => e = .returned (.bool q) ∧ Below w.heap.size w w' := by
  obtain ⟨u, hu⟩ : ∃ u, machB sy st rs = u := ⟨_, rfl⟩
  obtain ⟨v, hv⟩ : ∃ v, dfaB sl sy xl = v := ⟨_, rfl⟩
  obtain ⟨x, hx⟩ : ∃ x, dfaB sr sy xr = x := ⟨_, rfl⟩
  have HQ := Lib.hid (show (u && (v && x)) = q by rw [← hq, readyB, hu, hv, hx])
  have H := Lib.hid h; have HL := Lib.hid hl; have HR := Lib.hid hr
  have HV := Lib.hid hv; have HX := Lib.hid hx
  have hbx := Blk.new w 93 #[.int .i64 sy, .int .i64 st, .slice A n cp, .int .i64 sl, .slice Al nl cl, .int .i64 sr, .slice Ar nr cr]
  have BX := Lib.hid hbx
  clear h hl hr hq hv hx hbx
  go_enter Try.func60, Try.ntmps60
  go_wp2_with fail
  refine (validMachine_c sy st A n cp rs u _ (by exact H.out.alloc _) hn hu).mono ?_
  rintro e w1 ⟨rfl, hb⟩
  have X1 := Lib.hid (BX.out.keep hb)
  have B1 := Lib.hid (up1 hb)
  have x0 := X1.out.cell 0; have x3 := X1.out.cell 3; have x4 := X1.out.cell 4; have x5 := X1.out.cell 5; have x6 := X1.out.cell 6
  simp at x0 x3 x4 x5 x6
  clear hb hu
  cases u
  · go_wp2_with fail
    go_ret
    exact ⟨by rw [← HQ.out]; rfl, B1.out⟩
  go_wp2_with fail
  refine (iValidDfa_c sl sy Al nl cl xl _ (by exact Rd.below HL.out B1.out) (by omega)).mono ?_
  rw [HV.out]
  rintro e w2 ⟨rfl, hb⟩
  have X2 := Lib.hid (X1.out.keep hb)
  have B2 := Lib.hid (below_chain B1.out B1.out.size hb)
  clear hb x0 x3 x4 x5 x6
  have x0 := X2.out.cell 0; have x5 := X2.out.cell 5; have x6 := X2.out.cell 6
  simp at x0 x5 x6
  cases v
  · go_wp2_with fail
    go_ret
    exact ⟨by rw [← HQ.out]; rfl, B2.out⟩
  go_wp2_with fail
  refine (iValidDfa_c sr sy Ar nr cr xr _ (by exact Rd.below HR.out B2.out) (by omega)).mono ?_
  rw [HX.out]
  rintro e w3 ⟨rfl, hb⟩
  have B3 := Lib.hid (below_chain B2.out B2.out.size hb)
  clear hb
  go_wp2_with fail
  go_ret
  exact ⟨by rw [← HQ.out]; rfl, B3.out⟩
end Go.Proofs.Ytmmgejnhfpfmnaa
