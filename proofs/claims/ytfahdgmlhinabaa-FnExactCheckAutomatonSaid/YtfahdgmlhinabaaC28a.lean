/-
  Contracts of chapter 28 (automata): the abstraction of a configuration.
-/
import Derived.Test.YtfahdgmlhinabaaC05r
import Derived.Test.YtfahdgmlhinabaaC28c
import Derived.Test.YtfahdgmlhinabaaC26b
import Derived.Test.YtfahdgmlhinabaaLawDfa
namespace Go.Proofs.Ytfahdgmlhinabaa
open Go.RowKit

def absL (sy : Int) (xl xr : List Int) (s : Int) (xs ys : List Int) : List Int := [runF sy xl xs.reverse 0, s, ys.getD 0 0, runF sy xr ys.tail.reverse 0]
def readyB (sy st : Int) (rs : List Rule3) (sl : Int) (xl : List Int) (sr : Int) (xr : List Int) : Bool := machB sy st rs && (dfaB sl sy xl && dfaB sr sy xr)
def absR (sy st : Int) (rs : List Rule3) (sl : Int) (xl : List Int) (sr : Int) (xr : List Int) (s : Int) (xs ys : List Int) : List Int × Int :=
  if readyB sy st rs sl xl sr xr && confB sy st s xs ys then (absL sy xl xr s xs ys, 0) else ([], 1)
/-- an automaton behind a pointer -/
structure DfaP (w : World) (g : Nat) (st : Int) (A : Option Addr) (n c : Nat) (xs : List Int) : Prop where
  c0 : w.cell? ⟨g, 0, none⟩ = some (.int .i64 st)
  c1 : w.cell? ⟨g, 1, none⟩ = some (.slice A n c)
  rd : RdI w A n xs
theorem DfaP.below {w w' : World} {g : Nat} {st : Int} {A : Option Addr} {n c : Nat} {xs : List Int} (h : DfaP w g st A n c xs) (hb : Below w.heap.size w w') : DfaP w' g st A n c xs := ⟨keepc hb h.c0, keepc hb h.c1, h.rd.below hb⟩
set_option maxHeartbeats 2000000 in
theorem l28Ready_c (g : Nat) (sy st : Int) (A : Option Addr) (n cp : Nat) (rs : List Rule3) (gl : Nat) (sl : Int) (Al : Option Addr) (nl cl : Nat) (xl : List Int) (gr : Nat) (sr : Int) (Ar : Option Addr) (nr cr : Nat) (xr : List Int) (q : Bool) (w : World)
    (h : MachP w g sy st A n cp rs) (hl : DfaP w gl sl Al nl cl xl) (hr : DfaP w gr sr Ar nr cr xr) (hn : n ≤ 1000000000) (hnl : nl ≤ 1000000000) (hnr : nr ≤ 1000000000) (hq : readyB sy st rs sl xl sr xr = q) :
    Calls Try.prog 73 #[.pointer (some ⟨g, 0, none⟩), .pointer (some ⟨gl, 0, none⟩), .pointer (some ⟨gr, 0, none⟩)] w fun e w' => e = .returned (.bool q) ∧ Below w.heap.size w w' := by
  obtain ⟨u, hu⟩ : ∃ u, machB sy st rs = u := ⟨_, rfl⟩
  obtain ⟨v, hv⟩ : ∃ v, dfaB sl sy xl = v := ⟨_, rfl⟩
  obtain ⟨x, hx⟩ : ∃ x, dfaB sr sy xr = x := ⟨_, rfl⟩
  have HQ := Lib.hid (show (u && (v && x)) = q by rw [← hq, readyB, hu, hv, hx])
  have H := Lib.hid h; have HL := Lib.hid hl; have HR := Lib.hid hr
  have HV := Lib.hid hv; have HX := Lib.hid hx
  clear h hl hr hq hv hx
  go_enter Try.func73, Try.ntmps73
  go_wp2_with fail
  refine (l05Is_c g sy st A n cp rs u _ (by exact H.out) hn hu).mono ?_
  rintro e w1 ⟨rfl, hb⟩
  have B1 := Lib.hid hb
  have M1 := Lib.hid (H.out.below hb); have L1 := Lib.hid (HL.out.below hb); have R1 := Lib.hid (HR.out.below hb)
  have m0 := M1.out.c0
  clear hb hu
  cases u
  · go_wp2_with fail
    go_ret
    exact ⟨by rw [← HQ.out]; rfl, B1.out⟩
  go_wp2_with fail
  refine (l28Is_c gl sl sy Al nl cl xl _ (by exact L1.out.c0) (by exact L1.out.c1) (by exact L1.out.rd) (by omega)).mono ?_
  rw [HV.out]
  rintro e w2 ⟨rfl, ⟨k, rfl⟩⟩
  cases v
  · go_wp2_with fail
    go_ret
    exact ⟨by rw [← HQ.out]; rfl, below_drewN B1.out _⟩
  go_wp2_with fail
  refine (l28Is_c gr sr sy Ar nr cr xr _ (by exact R1.out.c0) (by exact R1.out.c1) (by exact Rd.drewN R1.out.rd _) (by omega)).mono ?_
  rw [HX.out]
  rintro e w2 ⟨rfl, ⟨k2, rfl⟩⟩
  go_wp2_with fail
  go_ret
  exact ⟨by rw [← HQ.out]; rfl, below_drewN B1.out _⟩
set_option maxHeartbeats 2000000 in
theorem l28Abstract_c (g : Nat) (sy st : Int) (A : Option Addr) (n cp : Nat) (rs : List Rule3) (gl : Nat) (sl : Int) (Al : Option Addr) (nl cl : Nat) (xl : List Int) (gr : Nat) (sr : Int) (Ar : Option Addr) (nr cr : Nat) (xr : List Int) (gc : Nat) (s : Int) (A2 : Option Addr) (n2 c2 : Nat) (xs : List Int) (A3 : Option Addr) (n3 c3 : Nat) (ys : List Int) (w : World)
    (h : MachP w g sy st A n cp rs) (hl : DfaP w gl sl Al nl cl xl) (hr : DfaP w gr sr Ar nr cr xr) (hc : ConfP w gc s A2 n2 c2 xs A3 n3 c3 ys) (hdl : DfaOk sl sy xl) (hdr : DfaOk sr sy xr) (hxs : ∀ x ∈ xs, 0 ≤ x ∧ x ≤ sy - 1) (hys : ∀ x ∈ ys, 0 ≤ x ∧ x ≤ sy - 1) (hn2 : n2 ≤ 100000) (hn3 : n3 ≤ 100000) (hnc : n3 ≤ c3) :
    Calls Try.prog 85 #[.pointer (some ⟨g, 0, none⟩), .pointer (some ⟨gl, 0, none⟩), .pointer (some ⟨gr, 0, none⟩), .pointer (some ⟨gc, 0, none⟩)] w (IntsOut (absL sy xl xr s xs ys) w) := by
  obtain ⟨r1, hr1⟩ : ∃ r, runF sy xl xs.reverse 0 = r := ⟨_, rfl⟩
  obtain ⟨r2, hr2⟩ : ∃ r, ys.getD 0 0 = r := ⟨_, rfl⟩
  obtain ⟨r3, hr3⟩ : ∃ r, runF sy xr ys.tail.reverse 0 = r := ⟨_, rfl⟩
  have HE := Lib.hid (show absL sy xl xr s xs ys = [r1, s, r2, r3] by rw [absL, hr1, hr2, hr3])
  rw [HE.out]
  have HR1 := Lib.hid hr1; have HR2 := Lib.hid hr2; have HR3 := Lib.hid hr3
  have HDL := Lib.hid hdl; have HDR := Lib.hid hdr
  have HXS := Lib.hid (show ∀ x ∈ xs.reverse, 0 ≤ x ∧ x ≤ sy - 1 from fun x hx => hxs x (List.mem_reverse.1 hx))
  have HYS := Lib.hid (show ∀ x ∈ ys.tail.reverse, 0 ≤ x ∧ x ≤ sy - 1 from fun x hx => hys x (List.mem_of_mem_tail (List.mem_reverse.1 hx)))
  have k2 := hc.c2
  have H := Lib.hid h; have HL := Lib.hid hl; have HR := Lib.hid hr; have HC := Lib.hid hc
  clear h hl hr hc hr1 hr2 hr3 hdl hdr hxs hys
  go_enter Try.func85, Try.ntmps85
  go_wp2_with fail
  refine (l05Rest_c A3 n3 c3 ys _ (by exact HC.out.rd') (by omega) hnc).mono ?_
  rintro e w1 ⟨A4, n4, c4, rfl, hn4, hw, hb⟩
  have M1 := Lib.hid (H.out.below hb); have L1 := Lib.hid (HL.out.below hb); have R1 := Lib.hid (HR.out.below hb); have C1 := Lib.hid (HC.out.below hb)
  have W1 := Lib.hid hw.rdI; have B1 := Lib.hid hb
  have hz1 := hb.size
  clear hw hb k2
  have x0 := Ext.cell M1.out.c0; have y0 := Ext.cell C1.out.c0; have y1 := Ext.cell C1.out.c1; have y2 := Ext.cell C1.out.c2
  go_wp2_with fail
  refine Mix.wp_region_mix [0, 0, 0, 0, 3, 0, 0, 0, 3, 1, 1, 0, 0, 0, 3, 0, 1, 0, 0, 0, 0, 3, 0, 1, 1, 1, 0] (fun w' => ∃ x : Ext w1, w' = x.w) (by kernel_rfl) (by kernel_rfl) (InExt.drew _) ?_
  repeat (first | (refine Mix.wpMix_read (by rfl) ?_; go_big_quiet_step (fail); refine wpQuiet_nil ?_) | (refine Mix.wpMix_pure (by rfl) ?_; go_big_quiet_step (fail); refine wpQuiet_nil ?_))
  refine Mix.wpMix_chg (by rfl) (fun K hK => ?_)
  go_wp2_with fail
  refine (l03Reverse_c A2 n2 c2 xs _ (by exact C1.out.rd.drew) (by omega)).mono ?_
  rintro e w2 ⟨A5, c5, rfl, hw, hb⟩
  have em := below_of_drew hb
  have W2 := Lib.hid hw.rdI; clear hw hb
  go_wp2_with fail
  refine hK _ _ ⟨⟨_, em⟩, rfl⟩ ?_
  clear hK K
  repeat (first | (refine Mix.wpMix_read (by rfl) ?_; go_big_quiet_step (fail); refine wpQuiet_nil ?_) | (refine Mix.wpMix_pure (by rfl) ?_; go_big_quiet_step (fail); refine wpQuiet_nil ?_))
  refine Mix.wpMix_chg (by rfl) (fun K hK => ?_)
  go_wp2_with fail
  refine (l28Run_c gl sl sy Al A5 nl cl n2 c5 xl xs.reverse _ (by exact (L1.out.below em).c1) (by exact (L1.out.below em).rd) W2.out HDL.out HXS.out (by omega)).mono ?_
  rw [HR1.out]
  rintro e w3 ⟨rfl, ⟨k3, rfl⟩⟩
  have em3 := below_drewN em k3
  clear em
  go_wp2_with fail
  refine hK _ _ ⟨⟨_, em3⟩, rfl⟩ ?_
  clear hK K
  repeat (first | (refine Mix.wpMix_read (by rfl) ?_; go_big_quiet_step (fail); refine wpQuiet_nil ?_) | (refine Mix.wpMix_pure (by rfl) ?_; go_big_quiet_step (fail); refine wpQuiet_nil ?_))
  refine Mix.wpMix_chg (by rfl) (fun K hK => ?_)
  go_wp2_with fail
  refine (l05Head_c gc s A2 n2 c2 xs A3 n3 c3 ys _ (by exact C1.out.below em3) (by omega)).mono ?_
  rw [HR2.out]
  rintro e w4 ⟨rfl, rfl⟩
  go_wp2_with fail
  refine hK _ _ ⟨⟨_, em3⟩, rfl⟩ ?_
  clear hK K
  repeat (first | (refine Mix.wpMix_read (by rfl) ?_; go_big_quiet_step (fail); refine wpQuiet_nil ?_) | (refine Mix.wpMix_pure (by rfl) ?_; go_big_quiet_step (fail); refine wpQuiet_nil ?_))
  refine Mix.wpMix_chg (by rfl) (fun K hK => ?_)
  go_wp2_with fail
  refine (l03Reverse_c A4 n4 c4 ys.tail _ (by exact W1.out.below em3) (by omega)).mono ?_
  rintro e w5 ⟨A6, c6, rfl, hw, hb⟩
  have em5 := below_chain em3 em3.size hb
  have W5 := Lib.hid hw.rdI; clear hw hb em3
  go_wp2_with fail
  refine hK _ _ ⟨⟨_, em5⟩, rfl⟩ ?_
  clear hK K
  repeat (first | (refine Mix.wpMix_read (by rfl) ?_; go_big_quiet_step (fail); refine wpQuiet_nil ?_) | (refine Mix.wpMix_pure (by rfl) ?_; go_big_quiet_step (fail); refine wpQuiet_nil ?_))
  refine Mix.wpMix_chg (by rfl) (fun K hK => ?_)
  go_wp2_with fail
  refine (l28Run_c gr sr sy Ar A6 nr cr n4 c6 xr ys.tail.reverse _ (by exact (R1.out.below em5).c1) (by exact (R1.out.below em5).rd) W5.out HDR.out HYS.out (by omega)).mono ?_
  rw [HR3.out]
  rintro e w6 ⟨rfl, ⟨k6, rfl⟩⟩
  have em6 := below_drewN em5 k6
  have hz5 := em5.size
  clear em5
  go_wp2_with fail
  refine hK _ _ ⟨⟨_, em6⟩, rfl⟩ ?_
  clear hK K
  repeat (first | (refine Mix.wpMix_read (by rfl) ?_; go_big_quiet_step (fail); refine wpQuiet_nil ?_) | (refine Mix.wpMix_pure (by rfl) ?_; go_big_quiet_step (fail); refine wpQuiet_nil ?_))
  refine Mix.wpMix_chg (by rfl) (fun K hK => ?_)
  go_wp2_with fail
  refine hK _ _ ⟨⟨_, em6.alloc (by simp; omega) _⟩, rfl⟩ ?_
  clear hK K
  repeat (first | (refine Mix.wpMix_read (by rfl) ?_; go_big_quiet_step (fail); refine wpQuiet_nil ?_) | (refine Mix.wpMix_pure (by rfl) ?_; go_big_quiet_step (fail); refine wpQuiet_nil ?_))
  (refine Mix.wpMix_nil ?_; try simp only [Exit.then])
  go_wp2_with fail
  go_ret
  have hb := Blk.new (w5.drewN k6) 2 #[i64 r1, i64 s, i64 r2, i64 r3]
  refine ⟨some ⟨w5.heap.size, 0, none⟩, 4, rfl, ?_, B1.out.trans ((em6.alloc (by simp; omega) _).mono hz1)⟩
  exact hb.wr (by simp; omega) (by simp) rfl (by simp)
theorem confB_parts {sy st s : Int} {xs ys : List Int} (h : confB sy st s xs ys = true) : (∀ x ∈ xs, 0 ≤ x ∧ x ≤ sy - 1) ∧ (∀ x ∈ ys, 0 ≤ x ∧ x ≤ sy - 1) ∧ (xs.length : Int) ≤ 200 ∧ (ys.length : Int) ≤ 200 := by
  simp only [confB, sideB, Bool.and_eq_true, decide_eq_true_eq] at h
  exact ⟨allB_mem h.1.2.1.2, allB_mem h.2.1.2, h.1.2.1.1, h.2.1.1⟩
theorem readyB_parts {sy st : Int} {rs : List Rule3} {sl : Int} {xl : List Int} {sr : Int} {xr : List Int} (h : readyB sy st rs sl xl sr xr = true) : machB sy st rs = true ∧ DfaOk sl sy xl ∧ DfaOk sr sy xr := by
  simp only [readyB, Bool.and_eq_true] at h
  exact ⟨h.1, DfaOk.of h.2.1, DfaOk.of h.2.2⟩
/-- four boxes, one behind the other -/
theorem boxes4 (w : World) (t0 t1 t2 t3 : TypeId) (a0 a1 a2 a3 : Array Value) : ∃ w0, (((w.alloc (.cells a0 t0)).alloc (.cells a1 t1)).alloc (.cells a2 t2)).alloc (.cells a3 t3) = w0 ∧ Blk w0 w.heap.size t0 a0 ∧ Blk w0 (w.heap.size + 1) t1 a1 ∧ Blk w0 (w.heap.size + 1 + 1) t2 a2 ∧ Blk w0 (w.heap.size + 1 + 1 + 1) t3 a3 ∧ Below w.heap.size w w0 ∧ w0.heap.size = w.heap.size + 1 + 1 + 1 + 1 := by
  refine ⟨_, rfl, ((((Blk.new w _ _).alloc _).alloc _).alloc _), ?_, ?_, ?_, ?_, by simp⟩
  · have := ((Blk.new (w.alloc (.cells a0 t0)) t1 a1).alloc (.cells a2 t2)).alloc (.cells a3 t3)
    rwa [World.size_alloc] at this
  · have := (Blk.new ((w.alloc (.cells a0 t0)).alloc (.cells a1 t1)) t2 a2).alloc (.cells a3 t3)
    rwa [World.size_alloc, World.size_alloc] at this
  · have := Blk.new (((w.alloc (.cells a0 t0)).alloc (.cells a1 t1)).alloc (.cells a2 t2)) t3 a3
    rwa [World.size_alloc, World.size_alloc, World.size_alloc] at this
  · exact (((below_size.alloc (Nat.le_refl _) _).alloc (by simp) _).alloc (by simp; omega) _).alloc (by simp; omega) _
/-- a machine with two automata -/
abbrev autV (sy st : Int) (A : Option Addr) (n cp : Nat) (sl : Int) (Al : Option Addr) (nl cl : Nat) (sr : Int) (Ar : Option Addr) (nr cr : Nat) : Value := .agg #[.int .i64 sy, .int .i64 st, .slice A n cp, .int .i64 sl, .slice Al nl cl, .int .i64 sr, .slice Ar nr cr]
set_option maxHeartbeats 2000000 in
theorem autValid_c (sy st : Int) (A : Option Addr) (n cp : Nat) (rs : List Rule3) (sl : Int) (Al : Option Addr) (nl cl : Nat) (xl : List Int) (sr : Int) (Ar : Option Addr) (nr cr : Nat) (xr : List Int) (q : Bool) (w : World)
    (h : Rd3 w A n rs) (hl : RdI w Al nl xl) (hr : RdI w Ar nr xr) (hn : n ≤ 1000000000) (hnl : nl ≤ 1000000000) (hnr : nr ≤ 1000000000) (hq : readyB sy st rs sl xl sr xr = q) :
    Calls Try.prog 75 #[autV sy st A n cp sl Al nl cl sr Ar nr cr] w fun e w' => e = .returned (.bool q) ∧ Below w.heap.size w w' := by
  obtain ⟨u, hu⟩ : ∃ u, machB sy st rs = u := ⟨_, rfl⟩
  obtain ⟨v, hv⟩ : ∃ v, dfaB sl sy xl = v := ⟨_, rfl⟩
  obtain ⟨x, hx⟩ : ∃ x, dfaB sr sy xr = x := ⟨_, rfl⟩
  have HQ := Lib.hid (show (u && (v && x)) = q by rw [← hq, readyB, hu, hv, hx])
  have H := Lib.hid h; have HL := Lib.hid hl; have HR := Lib.hid hr
  have HV := Lib.hid hv; have HX := Lib.hid hx
  have hbx := Blk.new w 112 #[.int .i64 sy, .int .i64 st, .slice A n cp, .int .i64 sl, .slice Al nl cl, .int .i64 sr, .slice Ar nr cr]
  have BX := Lib.hid hbx
  clear h hl hr hq hv hx hbx
  go_enter Try.func75, Try.ntmps75
  go_wp2_with fail
  refine (validMachine_c sy st A n cp rs u _ (by exact H.out.alloc _) hn hu).mono ?_
  rintro e w1 ⟨rfl, hb⟩
  have X1 := Lib.hid (BX.out.keep hb)
  have B1 := Lib.hid (up1 hb)
  have x0 := X1.out.cell 0; have x3 := X1.out.cell 3; have x4 := X1.out.cell 4; have x5 := X1.out.cell 5; have x6 := X1.out.cell 6
  simp at x0 x3 x4 x5 x6
  clear hb hu
  cases u
  · go_wp2_with fail
    go_ret
    exact ⟨by rw [← HQ.out]; rfl, B1.out⟩
  go_wp2_with fail
  refine (iValidDfa_c sl sy Al nl cl xl _ (by exact Rd.below HL.out B1.out) (by omega)).mono ?_
  rw [HV.out]
  rintro e w2 ⟨rfl, hb⟩
  have X2 := Lib.hid (X1.out.keep hb)
  have B2 := Lib.hid (below_chain B1.out B1.out.size hb)
  clear hb x0 x3 x4 x5 x6
  have x0 := X2.out.cell 0; have x5 := X2.out.cell 5; have x6 := X2.out.cell 6
  simp at x0 x5 x6
  cases v
  · go_wp2_with fail
    go_ret
    exact ⟨by rw [← HQ.out]; rfl, B2.out⟩
  go_wp2_with fail
  refine (iValidDfa_c sr sy Ar nr cr xr _ (by exact Rd.below HR.out B2.out) (by omega)).mono ?_
  rw [HX.out]
  rintro e w3 ⟨rfl, hb⟩
  have B3 := Lib.hid (below_chain B2.out B2.out.size hb)
  clear hb
  go_wp2_with fail
  go_ret
  exact ⟨by rw [← HQ.out]; rfl, B3.out⟩
set_option maxHeartbeats 2000000 in
theorem autOf_c (sy st : Int) (A : Option Addr) (n cp : Nat) (sl : Int) (Al : Option Addr) (nl cl : Nat) (xl : List Int) (sr : Int) (Ar : Option Addr) (nr cr : Nat) (xr : List Int) (s : Int) (A2 : Option Addr) (n2 c2 : Nat) (xs : List Int) (A3 : Option Addr) (n3 c3 : Nat) (ys : List Int) (w : World)
    (hl : RdI w Al nl xl) (hr : RdI w Ar nr xr) (h2 : RdI w A2 n2 xs) (h3 : RdI w A3 n3 ys) (hdl : DfaOk sl sy xl) (hdr : DfaOk sr sy xr) (hxs : ∀ x ∈ xs, 0 ≤ x ∧ x ≤ sy - 1) (hys : ∀ x ∈ ys, 0 ≤ x ∧ x ≤ sy - 1) (hn2 : n2 ≤ 100000) (hn3 : n3 ≤ 100000) (hnc : n3 ≤ c3) :
    Calls Try.prog 89 #[autV sy st A n cp sl Al nl cl sr Ar nr cr, .agg #[.int .i64 s, .slice A2 n2 c2, .slice A3 n3 c3]] w fun e w' => e = .returned (.agg #[i64 (runF sy xl xs.reverse 0), i64 s, i64 (ys.getD 0 0), i64 (runF sy xr ys.tail.reverse 0)]) ∧ Below w.heap.size w w' := by
  obtain ⟨r1, hr1⟩ : ∃ r, runF sy xl xs.reverse 0 = r := ⟨_, rfl⟩
  obtain ⟨r2, hr2⟩ : ∃ r, ys.getD 0 0 = r := ⟨_, rfl⟩
  obtain ⟨r3, hr3⟩ : ∃ r, runF sy xr ys.tail.reverse 0 = r := ⟨_, rfl⟩
  rw [hr1, hr2, hr3]
  have HR1 := Lib.hid hr1; have HR2 := Lib.hid hr2; have HR3 := Lib.hid hr3
  have HDL := Lib.hid hdl; have HDR := Lib.hid hdr
  have HXS := Lib.hid (show ∀ x ∈ xs.reverse, 0 ≤ x ∧ x ≤ sy - 1 from fun x hx => hxs x (List.mem_reverse.1 hx))
  have HYS := Lib.hid (show ∀ x ∈ ys.tail.reverse, 0 ≤ x ∧ x ≤ sy - 1 from fun x hx => hys x (List.mem_of_mem_tail (List.mem_reverse.1 hx)))
  obtain ⟨w0, hw0⟩ : ∃ w0, ((w.alloc (.cells #[i64 sy, i64 st, .slice A n cp, i64 sl, .slice Al nl cl, i64 sr, .slice Ar nr cr] 112)).alloc (.cells #[i64 s, .slice A2 n2 c2, .slice A3 n3 c3] 78)).alloc (.cells #[i64 0, i64 0, i64 0, i64 0] 129) = w0 := ⟨_, rfl⟩
  have B0 := Lib.hid (show Below w.heap.size w w0 by rw [← hw0]; exact ((below_size.alloc (Nat.le_refl _) _).alloc (by simp) _).alloc (by simp; omega) _)
  have b0 : Blk w0 w.heap.size 112 #[i64 sy, i64 st, .slice A n cp, i64 sl, .slice Al nl cl, i64 sr, .slice Ar nr cr] := by rw [← hw0]; exact ((Blk.new w _ _).alloc _).alloc _
  have b1 : Blk w0 (w.heap.size + 1) 78 #[i64 s, .slice A2 n2 c2, .slice A3 n3 c3] := by
    rw [← hw0]
    have := (Blk.new (w.alloc (.cells #[i64 sy, i64 st, .slice A n cp, i64 sl, .slice Al nl cl, i64 sr, .slice Ar nr cr] 112)) 78 #[i64 s, .slice A2 n2 c2, .slice A3 n3 c3]).alloc (.cells #[i64 0, i64 0, i64 0, i64 0] 129)
    rwa [World.size_alloc] at this
  have b2 : Blk w0 (w.heap.size + 1 + 1) 129 #[i64 0, i64 0, i64 0, i64 0] := by
    rw [← hw0]
    have := Blk.new ((w.alloc (.cells #[i64 sy, i64 st, .slice A n cp, i64 sl, .slice Al nl cl, i64 sr, .slice Ar nr cr] 112)).alloc (.cells #[i64 s, .slice A2 n2 c2, .slice A3 n3 c3] 78)) 129 #[i64 0, i64 0, i64 0, i64 0]
    rwa [World.size_alloc, World.size_alloc] at this
  have L0 := Lib.hid (hl.below B0.out); have R0 := Lib.hid (hr.below B0.out); have C2 := Lib.hid (h2.below B0.out); have C3 := Lib.hid (h3.below B0.out)
  have O0 := Lib.hid b2
  have d0 := b0.cell 0; have d3 := b0.cell 3; have d4 := b0.cell 4; have d5 := b0.cell 5; have d6 := b0.cell 6
  have e0 := b1.cell 0; have e1 := b1.cell 1; have e2 := b1.cell 2
  simp at d0 d3 d4 d5 d6 e0 e1 e2
  have hz0 : w.heap.size + 1 + 1 < w0.heap.size := b2.lt
  clear hl hr h2 h3 hr1 hr2 hr3 hdl hdr hxs hys b0 b1 b2
  go_enter Try.func89, Try.ntmps89
  go_wp2_with fail
  clear hw0
  have x0 := Ext.cell d0; have x3 := Ext.cell d3; have x4 := Ext.cell d4; have x5 := Ext.cell d5; have x6 := Ext.cell d6; have y0 := Ext.cell e0; have y1 := Ext.cell e1; have y2 := Ext.cell e2
  refine Mix.wp_region_mix [0, 3, 0, 0, 3, 1, 1, 0, 3, 0, 3, 1, 0, 3, 0, 0, 3, 1, 1, 1, 1, 2] (fun w' => ∃ x : Ext w0, w' = x.w) (by kernel_rfl) (by kernel_rfl) (InExt.drew _) ?_
  repeat (first | (refine Mix.wpMix_read (by rfl) ?_; go_big_quiet_step (fail); refine wpQuiet_nil ?_) | (refine Mix.wpMix_pure (by rfl) ?_; go_big_quiet_step (fail); refine wpQuiet_nil ?_))
  refine Mix.wpMix_chg (by rfl) (fun K hK => ?_)
  go_wp2_with fail
  refine (reversed_c A2 n2 c2 xs _ (by exact C2.out.drew) (by omega)).mono ?_
  rintro e w2 ⟨A5, c5, rfl, hw, hb⟩
  have em := below_of_drew hb
  have W2 := Lib.hid hw.rdI; clear hw hb
  go_wp2_with fail
  refine hK _ _ ⟨⟨_, em⟩, rfl⟩ ?_
  clear hK K
  repeat (first | (refine Mix.wpMix_read (by rfl) ?_; go_big_quiet_step (fail); refine wpQuiet_nil ?_) | (refine Mix.wpMix_pure (by rfl) ?_; go_big_quiet_step (fail); refine wpQuiet_nil ?_))
  refine Mix.wpMix_chg (by rfl) (fun K hK => ?_)
  go_wp2_with fail
  refine (dfaRun_c sl sy Al A5 nl cl n2 c5 xl xs.reverse _ (by exact L0.out.below em) W2.out HDL.out HXS.out (by omega)).mono ?_
  rw [HR1.out]
  rintro e w3 ⟨rfl, hb⟩
  have em3 := below_chain em em.size hb
  clear em hb
  go_wp2_with fail
  refine hK _ _ ⟨⟨_, em3⟩, rfl⟩ ?_
  clear hK K
  repeat (first | (refine Mix.wpMix_read (by rfl) ?_; go_big_quiet_step (fail); refine wpQuiet_nil ?_) | (refine Mix.wpMix_pure (by rfl) ?_; go_big_quiet_step (fail); refine wpQuiet_nil ?_))
  refine Mix.wpMix_chg (by rfl) (fun K hK => ?_)
  go_wp2_with fail
  refine (symbolAt_c A3 n3 c3 0 ys _ (by exact C3.out.below em3) (by omega) (by omega)).mono ?_
  rw [HR2.out]
  rintro e w4 ⟨rfl, rfl⟩
  go_wp2_with fail
  refine hK _ _ ⟨⟨_, em3⟩, rfl⟩ ?_
  clear hK K
  repeat (first | (refine Mix.wpMix_read (by rfl) ?_; go_big_quiet_step (fail); refine wpQuiet_nil ?_) | (refine Mix.wpMix_pure (by rfl) ?_; go_big_quiet_step (fail); refine wpQuiet_nil ?_))
  refine Mix.wpMix_chg (by rfl) (fun K hK => ?_)
  go_wp2_with fail
  refine (beyond_c A3 n3 c3 ys _ (by exact C3.out.below em3) (by omega) hnc).mono ?_
  rintro e w4 ⟨A4, n4, c4, rfl, hn4, hrd, rfl⟩
  have W4 := Lib.hid hrd; clear hrd
  go_wp2_with fail
  refine hK _ _ ⟨⟨_, em3⟩, rfl⟩ ?_
  clear hK K
  repeat (first | (refine Mix.wpMix_read (by rfl) ?_; go_big_quiet_step (fail); refine wpQuiet_nil ?_) | (refine Mix.wpMix_pure (by rfl) ?_; go_big_quiet_step (fail); refine wpQuiet_nil ?_))
  refine Mix.wpMix_chg (by rfl) (fun K hK => ?_)
  go_wp2_with fail
  refine (reversed_c A4 n4 c4 ys.tail _ (by exact W4.out) (by omega)).mono ?_
  rintro e w5 ⟨A6, c6, rfl, hw, hb⟩
  have em5 := below_chain em3 em3.size hb
  have W5 := Lib.hid hw.rdI; clear hw hb em3
  go_wp2_with fail
  refine hK _ _ ⟨⟨_, em5⟩, rfl⟩ ?_
  clear hK K
  repeat (first | (refine Mix.wpMix_read (by rfl) ?_; go_big_quiet_step (fail); refine wpQuiet_nil ?_) | (refine Mix.wpMix_pure (by rfl) ?_; go_big_quiet_step (fail); refine wpQuiet_nil ?_))
  refine Mix.wpMix_chg (by rfl) (fun K hK => ?_)
  go_wp2_with fail
  refine (dfaRun_c sr sy Ar A6 nr cr n4 c6 xr ys.tail.reverse _ (by exact R0.out.below em5) W5.out HDR.out HYS.out (by omega)).mono ?_
  rw [HR3.out]
  rintro e w6 ⟨rfl, hb⟩
  have em6 := below_chain em5 em5.size hb
  have B6 := Lib.hid (B0.out.trans (em6.mono (by omega)))
  have O6 := Lib.hid (O0.out.keep em6)
  have o0 := O6.out.cell 0; have o1 := O6.out.cell 1; have o2 := O6.out.cell 2; have o3 := O6.out.cell 3
  have f0 := O6.out.frozen 0; have f1 := O6.out.frozen 1; have f2 := O6.out.frozen 2; have f3 := O6.out.frozen 3
  simp at o0 o1 o2 o3
  clear em5 hb
  go_wp2_with fail
  refine hK _ _ ⟨⟨_, em6⟩, rfl⟩ ?_
  clear hK K
  repeat (first | (refine Mix.wpMix_read (by rfl) ?_; go_big_quiet_step (fail); refine wpQuiet_nil ?_) | (refine Mix.wpMix_pure (by rfl) ?_; go_big_quiet_step (fail); refine wpQuiet_nil ?_))
  refine Mix.wpMix_chg (by rfl) (fun K hK => ?_)
  go_wp2_with fail
  refine hK _ _ ⟨⟨_, em6⟩, rfl⟩ ?_
  clear hK K
  refine Mix.wpMix_tail (by rfl) (fun K hK => ?_)
  go_wp2_with fail
  refine hK _ _ ?_
  clear hK K
  (refine Mix.wpMix_nil ?_; try simp only [Exit.then])
  go_wp2_with fail
  refine bodyPost_ret (v := .agg #[i64 r1, i64 s, i64 r2, i64 r3]) (by simp [results, Try.results89, go_sem, o0, o1, o2, o3]) rfl ⟨rfl, (by have hzz := (B6.out).size; repeat' (first | (with_reducible exact B6.out) | (with_reducible refine Below.alloc ?_ ?_ _) | (with_reducible refine Below.setCell ?_ ?_ _) | (with_reducible refine below_drew ?_) | omega | (simp; done) | (simp; omega)))⟩
end Go.Proofs.Ytfahdgmlhinabaa
