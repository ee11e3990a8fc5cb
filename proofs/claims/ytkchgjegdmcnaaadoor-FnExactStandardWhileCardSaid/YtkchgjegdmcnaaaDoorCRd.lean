/-
  Reading while programs: the program's reader in memory (peek, take, digit).
-/
import Derived.Test.YtkchgjegdmcnaaaDoorCRb
import Derived.Test.YtkchgjegdmcnaaaDoorConcat
namespace Go.Proofs.YtkchgjegdmcnaaaDoor
open Go.RowKit

/-- the reader in memory: its cell is block g, its runes lie below L -/
structure RdrS (g L : Nat) (st : RS) (w : World) : Prop where
  mem : ∃ RA rn rc, Blk w g 50 #[.slice RA rn rc, .bool st.2.1, .int .i64 st.2.2] ∧ Rd w RA rn (st.1.map (Value.int .i32)) ∧ rn ≤ rc ∧ (∀ a, RA = some a → a.block < L ∧ a.block ≠ g) ∧ rn ≤ 2000000
  vals : ∀ c ∈ st.1, 0 ≤ c ∧ c ≤ 3000000
  glt : g < L
  llt : L ≤ w.heap.size
theorem RdrS.belowB {g L B : Nat} {st : RS} {w w' : World} (h : RdrS g L st w) (hb : Below B w w') (hB : L ≤ B) : RdrS g L st w' := by
  obtain ⟨RA, rn, rc, h1, h2, h3, h4, h5⟩ := h.mem
  refine ⟨⟨RA, rn, rc, h1.below hb (by have := h.glt; omega), h2.belowB (fun ad _ e => by have := (h4 ad e).1; omega) hb, h3, h4, h5⟩, h.vals, h.glt, Nat.le_trans h.llt hb.size⟩
theorem RdrS.alloc {g L : Nat} {st : RS} {w : World} (h : RdrS g L st w) (o : Obj) : RdrS g L st (w.alloc o) := h.belowB (below_size.alloc (Nat.le_refl _) o) h.llt
theorem RdrS.len {g L : Nat} {st : RS} {w : World} (h : RdrS g L st w) : st.1.length ≤ 2000000 := by
  obtain ⟨RA, rn, rc, _, h2, _, _, h5⟩ := h.mem
  have := h2.1; rw [List.length_map] at this; omega
/-- a store into one of the reader's cells -/
theorem RdrS.setLeft {g L : Nat} {st : RS} {w : World} (h : RdrS g L st w) (n : Int) : RdrS g L (st.1, st.2.1, n) (w.setCell ⟨g, 2, none⟩ (.int .i64 n)) := by
  obtain ⟨RA, rn, rc, h1, h2, h3, h4, h5⟩ := h.mem
  refine ⟨⟨RA, rn, rc, h1.set_ 2 _, ?_, h3, h4, h5⟩, h.vals, h.glt, by rw [World.size_setCell]; exact h.llt⟩
  exact Rd.atBlk h2 (fun a ha _ => Below.heap_setCell w _ _ a.block (h4 a ha).2) (by rw [World.size_setCell]; exact Nat.le_refl _)
theorem RdrS.setBad {g L : Nat} {st : RS} {w : World} (h : RdrS g L st w) (b : Bool) : RdrS g L (st.1, b, st.2.2) (w.setCell ⟨g, 1, none⟩ (.bool b)) := by
  obtain ⟨RA, rn, rc, h1, h2, h3, h4, h5⟩ := h.mem
  refine ⟨⟨RA, rn, rc, h1.set_ 1 _, ?_, h3, h4, h5⟩, h.vals, h.glt, by rw [World.size_setCell]; exact h.llt⟩
  exact Rd.atBlk h2 (fun a ha _ => Below.heap_setCell w _ _ a.block (h4 a ha).2) (by rw [World.size_setCell]; exact Nat.le_refl _)
theorem keep_set {g k : Nat} {w : World} (v : Value) : KeepR g (g + 1) w (w.setCell ⟨g, k, none⟩ v) := (KeepR.refl g (g + 1) w).setCell (Nat.le_refl _) (by show g < g + 1; omega) v
theorem KeepR.thenB {lo hi B : Nat} {a b c : World} (h : KeepR lo hi a b) (k : Below B b c) (hB : a.heap.size ≤ B) : KeepR lo hi a c :=
  ⟨k.os.trans h.os, k.tape.trans h.tape, k.output.trans h.output, Nat.le_trans h.size k.size, fun i hi hx => (k.block i (by omega)).trans (h.block i hi hx)⟩
set_option maxHeartbeats 1000000 in
set_option maxRecDepth 100000 in
theorem peek_c (g L : Nat) (st : RS) (w : World) (h : RdrS g L st w) : Calls Tryd.prog 44 #[.pointer (some ⟨g, 0, none⟩)] w fun e w' => e = .returned (.int .i32 (pkR st.1)) ∧ w = w' := by
  obtain ⟨R, b, l⟩ := st
  obtain ⟨RA, rn, rc, h1, h2, h3, h4, h5⟩ := h.mem
  simp only at h1 h2
  have hl := h2.1
  rw [List.length_map] at hl
  have c0 : w.cell? ⟨g, 0, none⟩ = some (.slice RA rn rc) := h1.cell 0
  show Calls Tryd.prog 44 #[.pointer (some ⟨g, 0, none⟩)] w fun e w' => e = .returned (.int .i32 (pkR R)) ∧ w = w'
  cases R with
  | nil =>
    obtain rfl : rn = 0 := by simpa using hl.symm
    clear h h1 h2 h3 h4 h5 hl
    go_enter Tryd.func44, Tryd.ntmps44
    go_wp2_with fail
    go_ret
    exact ⟨rfl, rfl⟩
  | cons c r =>
    rw [List.length_cons] at hl
    obtain ⟨m, hm⟩ : ∃ m, r.length = m := ⟨_, rfl⟩
    obtain rfl : rn = m + 1 := by omega
    obtain ⟨ad, v, rfl, _, hv, hc⟩ := h2.at_ (k := 0) (by omega)
    simp only [List.map_cons, List.getElem?_cons_zero, Option.some.injEq] at hv
    subst hv
    have hc' : w.cell? ad = some (.int .i32 c) := by rw [addrZv] at hc; exact hc
    have g0 : (((m + 1 : Nat) : Int) == 0) = false := by rw [beq_eq_false_iff_ne]; omega
    clear h h1 h2 h3 h4 hl hm hc
    go_enter Tryd.func44, Tryd.ntmps44
    go_wp2_with fail
    go_ret
    exact ⟨rfl, rfl⟩
set_option maxHeartbeats 1000000 in
set_option maxRecDepth 100000 in
theorem take_c (g L : Nat) (st : RS) (w : World) (h : RdrS g L st w) : Calls Tryd.prog 45 #[.pointer (some ⟨g, 0, none⟩)] w fun e w' => e = .returned (.int .i32 (pkR st.1)) ∧ RdrS g L (tkR st.1, st.2) w' ∧ KeepR g (g + 1) w w' := by
  have HP := Lib.hid (peek_c g L st w h)
  by_cases h0 : pkR st.1 = 0
  · have HT := Lib.hid (show tkR st.1 = st.1 by rw [tkR, if_pos h0])
    have H := Lib.hid h
    obtain ⟨x, hx⟩ : ∃ x, pkR st.1 = x := ⟨_, rfl⟩
    rw [hx] at HP h0 ⊢
    subst h0
    clear h hx
    go_enter Tryd.func45, Tryd.ntmps45
    go_wp2_with (go_at_call 44; refine (HP.out).mono ?_; rintro e w' ⟨rfl, rfl⟩)
    go_ret
    exact ⟨rfl, by rw [HT.out]; exact H.out, KeepR.refl _ _ _⟩
  · obtain ⟨R, b, l⟩ := st
    simp only at h0 HP ⊢
    cases R with
    | nil => exact absurd rfl h0
    | cons c r =>
      rw [pkR_cons] at h0 HP ⊢
      obtain ⟨RA, rn, rc, h1, h2, h3, h4, h5⟩ := h.mem
      simp only at h1 h2
      have hl := h2.1
      rw [List.length_map, List.length_cons] at hl
      obtain ⟨m, hm⟩ : ∃ m, r.length = m := ⟨_, rfl⟩
      obtain rfl : rn = m + 1 := by omega
      obtain ⟨ad, e, hlt, hcs⟩ := h2.2 (by omega)
      subst e
      have c0 : w.cell? ⟨g, 0, none⟩ = some (.slice (some ad) (m + 1) rc) := h1.cell 0
      have f0 := h1.frozen 0
      have g0 : (c == 0) = false := by rw [beq_eq_false_iff_ne]; exact h0
      have HFIN := Lib.hid (show ∀ (A : Option Addr) (cc : Nat), (A = some (ad.add 1) ∨ (m = 0 ∧ A = some ad)) → m ≤ cc → RdrS g L (tkR (c :: r), b, l) (w.setCell ⟨g, 0, none⟩ (.slice A m cc)) from fun A cc hA hc => by
        rw [tkR_cons r h0]
        refine ⟨⟨A, m, cc, h1.set_ 0 _, ⟨by rw [List.length_map]; exact hm, fun hn => ?_⟩, hc, fun a ha => ?_, by omega⟩, fun x hx => h.vals x (List.mem_cons_of_mem _ hx), h.glt, by rw [World.size_setCell]; exact h.llt⟩
        · rcases hA with hA | ⟨hm0, _⟩
          · refine ⟨_, hA, by rw [block_add, World.size_setCell]; exact hlt, fun j v hj => ?_⟩
            rw [add_add, World.cell?_setCell_other _ _ _ _ (fun e => (h4 ad rfl).2 (by have := congrArg Addr.block e; rw [block_add] at this; exact this.symm)), Nat.add_comm 1 j]
            exact hcs (j + 1) v (by rw [List.map_cons, List.getElem?_cons_succ]; exact hj)
          · omega
        · rcases hA with hA | ⟨_, hA⟩
          · rw [hA] at ha; injection ha with ha; subst ha; rw [block_add]; exact h4 ad rfl
          · rw [hA] at ha; injection ha with ha; subst ha; exact h4 ad rfl)
      have hrc : m + 1 ≤ rc := h3
      clear h h1 h2 h3 h4 h0 hl hm hlt hcs
      by_cases hrm : 1 = rc
      · obtain rfl : m = 0 := by omega
        subst hrm
        go_enter Tryd.func45, Tryd.ntmps45
        go_wp2_with (go_at_call 44; refine (HP.out).mono ?_; rintro e w' ⟨rfl, rfl⟩)
        go_ret
        exact ⟨rfl, HFIN.out _ _ (by first | exact .inr ⟨rfl, rfl⟩ | exact .inr ⟨trivial, rfl⟩ | exact .inl rfl | simp) (by first | exact Nat.zero_le _ | omega), keep_set _⟩
      · go_enter Tryd.func45, Tryd.ntmps45
        go_wp2_with (go_at_call 44; refine (HP.out).mono ?_; rintro e w' ⟨rfl, rfl⟩)
        go_ret
        exact ⟨rfl, HFIN.out _ _ (by first | exact .inl rfl | exact .inr ⟨rfl, rfl⟩) (by omega), keep_set _⟩
set_option maxHeartbeats 1000000 in
set_option maxRecDepth 100000 in
theorem digit_c (g L : Nat) (st : RS) (c : Int) (w : World) (h : RdrS g L st w) (hc : 0 ≤ c ∧ c ≤ 3000000) : Calls Tryd.prog 48 #[.pointer (some ⟨g, 0, none⟩), .int .i32 c] w fun e w' => e = .returned (.int .i64 (c - 48)) ∧ RdrS g L (st.1, st.2.1 || (decide (c < 48) || decide (57 < c)), st.2.2) w' ∧ KeepR g (g + 1) w w' := by
  obtain ⟨R, b, l⟩ := st
  obtain ⟨RA, rn, rc, h1, _⟩ := h.mem
  simp only at h1
  have c1 : w.cell? ⟨g, 1, none⟩ = some (.bool b) := h1.cell 1
  have f1 := h1.frozen 1
  have H := Lib.hid h
  have v0 : IntKind.i32.wrap (c - 48) = c - 48 := IntWalk.i32_in _ (by omega)
  have v1 : IntKind.i64.wrap (c - 48) = c - 48 := IntWalk.i64_in _ (by omega)
  clear h h1
  cases b
  · by_cases h0 : c < 48
    · have g0 : decide (c < (48 : Int)) = true := by simpa using h0
      have HS := Lib.hid (show (false || (decide (c < 48) || decide (57 < c))) = true by rw [g0]; rfl)
      clear h0
      go_enter Tryd.func48, Tryd.ntmps48
      go_wp2_with fail
      go_ret
      exact ⟨rfl, by first | exact H.out.setBad true | (simp only [HS.out]; exact H.out.setBad true), keep_set _⟩
    · have g0 : decide (c < (48 : Int)) = false := by simpa using h0
      by_cases h5 : 57 < c
      · have g5 : decide ((57 : Int) < c) = true := by simpa using h5
        have HS := Lib.hid (show (false || (decide (c < 48) || decide (57 < c))) = true by rw [g0, g5]; rfl)
        clear h0 h5
        go_enter Tryd.func48, Tryd.ntmps48
        go_wp2_with fail
        go_ret
        exact ⟨rfl, by first | exact H.out.setBad true | (simp only [HS.out]; exact H.out.setBad true), keep_set _⟩
      · have g5 : decide ((57 : Int) < c) = false := by simpa using h5
        have HS := Lib.hid (show (false || (decide (c < 48) || decide (57 < c))) = false by rw [g0, g5]; rfl)
        clear h0 h5
        go_enter Tryd.func48, Tryd.ntmps48
        go_wp2_with fail
        go_ret
        exact ⟨rfl, by first | exact H.out.setBad false | (simp only [HS.out]; exact H.out.setBad false), keep_set _⟩
  · have HS := Lib.hid (show (true || (decide (c < 48) || decide (57 < c))) = true from rfl)
    go_enter Tryd.func48, Tryd.ntmps48
    go_wp2_with fail
    go_ret
    exact ⟨rfl, by first | exact H.out.setBad true | (simp only [HS.out]; exact H.out.setBad true), keep_set _⟩

/-- an expression that the reader gives, in memory of the call's own -/
def IxOut (g L : Nat) (r : List (Int × Int) × RS) (w : World) (e : Ending) (w' : World) : Prop := ∃ A n c, e = .returned (.slice A n c) ∧ Wr w' w.heap.size w'.heap.size A (n * 2) (r.1.flatMap enc2) ∧ n ≤ c ∧ RdrS g L r.2 w' ∧ KeepR g (g + 1) w w'
theorem IxOut.leaf {g L : Nat} {a b : Int} {st : RS} {w w' : World} {T : TypeId} (hs : RdrS g L st w') (hk : KeepR g (g + 1) w w') : IxOut g L ([(a, b)], st) w (.returned (.slice (some ⟨w'.heap.size, 0, none⟩) 1 1)) (w'.alloc (.cells #[i64 a, i64 b] T)) :=
  ⟨_, 1, 1, rfl, (Blk.new w' T #[i64 a, i64 b]).wr hk.size (by simp) rfl (by simp), Nat.le_refl _, hs.alloc _, hk.thenB (below_size.alloc (Nat.le_refl _) _) hk.size⟩
theorem pkR_bd {g L : Nat} {st : RS} {w : World} (h : RdrS g L st w) : 0 ≤ pkR st.1 ∧ pkR st.1 ≤ 3000000 := by
  obtain ⟨R, s⟩ := st
  cases R with
  | nil => exact ⟨Int.le_refl _, by show (0 : Int) ≤ 3000000; omega⟩
  | cons c r => exact h.vals c (by simp)
set_option maxHeartbeats 4000000 in
set_option maxRecDepth 100000 in
theorem expr_c (g L F : Nat) : ∀ (st : RS) (w : World), RdrS g L st w → st.2.2 ≤ F → -10000 ≤ st.2.2 → st.2.2 ≤ 3200 → Calls Tryd.prog 46 #[.pointer (some ⟨g, 0, none⟩)] w (IxOut g L (ixE F st) w) := by
  induction F with
  | zero =>
    rintro ⟨R, b, l⟩ w h hF h1 h2
    simp only at hF h1 h2
    have HB := Lib.hid (show l - 1 < 0 ∨ b = true by left; omega)
    rw [ixE_bad HB.out]
    obtain ⟨RA, rn, rc, hm1, _⟩ := h.mem
    simp only at hm1
    have c2 : w.cell? ⟨g, 2, none⟩ = some (.int .i64 l) := hm1.cell 2
    have f2 := hm1.frozen 2
    have v0 : IntKind.i64.wrap (l - 1) = l - 1 := IntWalk.i64_in _ (by omega)
    obtain ⟨w1, hw1⟩ : ∃ w1, w.setCell ⟨g, 2, none⟩ (.int .i64 (l - 1)) = w1 := ⟨_, rfl⟩
    have S1 := Lib.hid (show RdrS g L (R, b, l - 1) w1 by rw [← hw1]; exact h.setLeft (l - 1))
    have K1 := Lib.hid (show KeepR g (g + 1) w w1 by rw [← hw1]; exact keep_set _)
    obtain ⟨_, _, _, hm2, _⟩ := S1.out.mem
    simp only at hm2
    have d1 : w1.cell? ⟨g, 1, none⟩ = some (.bool b) := hm2.cell 1
    have d2 : w1.cell? ⟨g, 2, none⟩ = some (.int .i64 (l - 1)) := hm2.cell 2
    have e1 := hm2.frozen 1
    obtain ⟨w2, hw2⟩ : ∃ w2, w1.setCell ⟨g, 1, none⟩ (.bool true) = w2 := ⟨_, rfl⟩
    have S2 := Lib.hid (show RdrS g L (R, true, l - 1) w2 by rw [← hw2]; exact S1.out.setBad true)
    have K2 := Lib.hid (show KeepR g (g + 1) w w2 by rw [← hw2]; exact K1.out.trans (keep_set _))
    clear h hm1 hm2
    by_cases hl : l - 1 < 0
    · have g1 : decide (l - 1 < 0) = true := by simpa using hl
      clear hl HB
      go_enter Tryd.func46, Tryd.ntmps46
      go_wp2_with fail
      go_ret
      exact IxOut.leaf S2.out K2.out
    · have g1 : decide (l - 1 < 0) = false := by simpa using hl
      obtain rfl : b = true := HB.out.resolve_left hl
      clear hl HB
      go_enter Tryd.func46, Tryd.ntmps46
      go_wp2_with fail
      go_ret
      exact IxOut.leaf S2.out K2.out
  | succ F IH =>
    rintro ⟨R, b, l⟩ w h hF h1 h2
    simp only at hF h1 h2
    by_cases hb : l - 1 < 0 ∨ b = true
    · have HB := Lib.hid hb
      rw [ixE_bad hb]
      clear hb IH
      obtain ⟨RA, rn, rc, hm1, _⟩ := h.mem
      simp only at hm1
      have c2 : w.cell? ⟨g, 2, none⟩ = some (.int .i64 l) := hm1.cell 2
      have f2 := hm1.frozen 2
      have v0 : IntKind.i64.wrap (l - 1) = l - 1 := IntWalk.i64_in _ (by omega)
      obtain ⟨w1, hw1⟩ : ∃ w1, w.setCell ⟨g, 2, none⟩ (.int .i64 (l - 1)) = w1 := ⟨_, rfl⟩
      have S1 := Lib.hid (show RdrS g L (R, b, l - 1) w1 by rw [← hw1]; exact h.setLeft (l - 1))
      have K1 := Lib.hid (show KeepR g (g + 1) w w1 by rw [← hw1]; exact keep_set _)
      obtain ⟨_, _, _, hm2, _⟩ := S1.out.mem
      simp only at hm2
      have d1 : w1.cell? ⟨g, 1, none⟩ = some (.bool b) := hm2.cell 1
      have d2 : w1.cell? ⟨g, 2, none⟩ = some (.int .i64 (l - 1)) := hm2.cell 2
      have e1 := hm2.frozen 1
      obtain ⟨w2, hw2⟩ : ∃ w2, w1.setCell ⟨g, 1, none⟩ (.bool true) = w2 := ⟨_, rfl⟩
      have S2 := Lib.hid (show RdrS g L (R, true, l - 1) w2 by rw [← hw2]; exact S1.out.setBad true)
      have K2 := Lib.hid (show KeepR g (g + 1) w w2 by rw [← hw2]; exact K1.out.trans (keep_set _))
      clear h hm1 hm2
      by_cases hl : l - 1 < 0
      · have g1 : decide (l - 1 < 0) = true := by simpa using hl
        clear hl HB
        go_enter Tryd.func46, Tryd.ntmps46
        go_wp2_with fail
        go_ret
        exact IxOut.leaf S2.out K2.out
      · have g1 : decide (l - 1 < 0) = false := by simpa using hl
        obtain rfl : b = true := HB.out.resolve_left hl
        clear hl HB
        go_enter Tryd.func46, Tryd.ntmps46
        go_wp2_with fail
        go_ret
        exact IxOut.leaf S2.out K2.out
    have hl0 : 0 ≤ l - 1 := by omega
    obtain rfl : b = false := by cases b; rfl; exact absurd (.inr rfl) hb
    rw [ixE_go hb]
    clear hb
    obtain ⟨RA, rn, rc, hm1, _⟩ := h.mem
    simp only at hm1
    have c2 : w.cell? ⟨g, 2, none⟩ = some (.int .i64 l) := hm1.cell 2
    have f2 := hm1.frozen 2
    have v0 : IntKind.i64.wrap (l - 1) = l - 1 := IntWalk.i64_in _ (by omega)
    obtain ⟨w1, hw1⟩ : ∃ w1, w.setCell ⟨g, 2, none⟩ (.int .i64 (l - 1)) = w1 := ⟨_, rfl⟩
    have S1 := Lib.hid (show RdrS g L (R, false, l - 1) w1 by rw [← hw1]; exact h.setLeft (l - 1))
    have K1 := Lib.hid (show KeepR g (g + 1) w w1 by rw [← hw1]; exact keep_set _)
    obtain ⟨_, _, _, hm2, _⟩ := S1.out.mem
    simp only at hm2
    have d1 : w1.cell? ⟨g, 1, none⟩ = some (.bool false) := hm2.cell 1
    have d2 : w1.cell? ⟨g, 2, none⟩ = some (.int .i64 (l - 1)) := hm2.cell 2
    have hz1 := K1.out.size
    have hgL := h.glt; have hLw := h.llt
    obtain ⟨c, hc⟩ : ∃ c, pkR R = c := ⟨_, rfl⟩
    obtain ⟨r, hr⟩ : ∃ r, tkR R = r := ⟨_, rfl⟩
    have hcb := pkR_bd h
    have HT := Lib.hid (take_c g L (R, false, l - 1) w1 S1.out)
    have HIH := Lib.hid IH
    simp only at hcb HT
    rw [hc, hr] at HT ⊢
    rw [hc] at hcb
    have g1 : decide (l - 1 < 0) = false := by rw [decide_eq_false_iff_not]; omega
    have HQ := Lib.hid (ixE_ok F (r, false, l - 1))
    clear h hm1 hm2 hc hr IH
    by_cases n1 : c = 110
    · subst n1
      have HG := Lib.hid (show ixP (ixE F) 110 r (l - 1) = ([(0, 0)], (r, false, l - 1)) by rw [ixP, if_pos rfl])
      go_enter Tryd.func46, Tryd.ntmps46
      go_wp2_with (go_at_call 45; refine (HT.out).mono ?_; rintro e w2 ⟨rfl, hs2, hk2⟩)
      go_ret
      rw [HG.out]
      exact IxOut.leaf hs2 (K1.out.trans hk2)
    have g2 : (c == 110) = false := by rw [beq_eq_false_iff_ne]; exact n1
    by_cases n2 : c = 104
    · subst n2
      have HG := Lib.hid (show ixP (ixE F) 104 r (l - 1) = ((3, 0) :: (ixE F (r, false, l - 1)).1, (ixE F (r, false, l - 1)).2) by rw [ixP, if_neg n1, if_pos rfl])
      obtain ⟨⟨xs, st3⟩, hx⟩ : ∃ x, ixE F (r, false, l - 1) = x := ⟨_, rfl⟩
      rw [hx] at HG HQ
      have HX := Lib.hid hx
      have q1 := HQ.out.low.2 hl0; have q2 := HQ.out.len
      simp only at q1 q2
      clear hx
      go_enter Tryd.func46, Tryd.ntmps46
      go_wp2_with (first
        | (go_at_call 45; refine (HT.out).mono ?_; rintro e w2 ⟨rfl, hs2, hk2⟩; have S2 := Lib.hid hs2; have K2 := Lib.hid (K1.out.trans hk2); have hz2 := K2.out.size; clear hs2 hk2)
        | (go_at_call 46; refine (HIH.out (r, false, l - 1) _ (by exact S2.out.alloc _) (by simp only; omega) (by simp only; omega) (by simp only; omega)).mono ?_; rw [HX.out]; rintro e w4 ⟨A4, n4, c4, rfl, hw4, hn4, hs4, hk4⟩; have hl4 : xs.length = n4 := Rd2.len hw4.rd; have R4 := Lib.hid (show Rd2 w4 A4 n4 xs from hw4.rd); have S4 := Lib.hid hs4; have HK4 := Lib.hid hk4; have hz4 := hk4.size; simp only [World.size_alloc] at hz4; clear hw4 hs4 hk4)
        | (at_builtin; refine wp_appExpr (by rfl) _ _ (by rfl) w2.heap.size _ _ _ [i64 3, i64 0] (by rfl) (by exact (Own.fullK (Nat.le_refl _) rfl rfl (by omega)).keepR HK4.out (by omega)) A4 n4 c4 xs (by rfl) R4.out (by omega) (by omega) ?_; intro A6 c6 w6 own6 hb6 hk6 hg6 hz6))
      go_ret
      rw [HG.out]
      exact ⟨A6, 1 + n4, c6, rfl, own6.wrK.wider hz2 (Nat.le_refl _), own6.cap, S4.out.belowB hb6 (by omega), ((K2.out.thenB (below_size.alloc (Nat.le_refl _) _) hz2).trans HK4.out).thenB hb6 hz2⟩
    have g3 : (c == 104) = false := by rw [beq_eq_false_iff_ne]; exact n2
    by_cases n3 : c = 116
    · subst n3
      have HG := Lib.hid (show ixP (ixE F) 116 r (l - 1) = ((4, 0) :: (ixE F (r, false, l - 1)).1, (ixE F (r, false, l - 1)).2) by rw [ixP, if_neg n1, if_neg n2, if_pos rfl])
      obtain ⟨⟨xs, st3⟩, hx⟩ : ∃ x, ixE F (r, false, l - 1) = x := ⟨_, rfl⟩
      rw [hx] at HG HQ
      have HX := Lib.hid hx
      have q1 := HQ.out.low.2 hl0; have q2 := HQ.out.len
      simp only at q1 q2
      clear hx
      go_enter Tryd.func46, Tryd.ntmps46
      go_wp2_with (first
        | (go_at_call 45; refine (HT.out).mono ?_; rintro e w2 ⟨rfl, hs2, hk2⟩; have S2 := Lib.hid hs2; have K2 := Lib.hid (K1.out.trans hk2); have hz2 := K2.out.size; clear hs2 hk2)
        | (go_at_call 46; refine (HIH.out (r, false, l - 1) _ (by exact S2.out.alloc _) (by simp only; omega) (by simp only; omega) (by simp only; omega)).mono ?_; rw [HX.out]; rintro e w4 ⟨A4, n4, c4, rfl, hw4, hn4, hs4, hk4⟩; have hl4 : xs.length = n4 := Rd2.len hw4.rd; have R4 := Lib.hid (show Rd2 w4 A4 n4 xs from hw4.rd); have S4 := Lib.hid hs4; have HK4 := Lib.hid hk4; have hz4 := hk4.size; simp only [World.size_alloc] at hz4; clear hw4 hs4 hk4)
        | (at_builtin; refine wp_appExpr (by rfl) _ _ (by rfl) w2.heap.size _ _ _ [i64 4, i64 0] (by rfl) (by exact (Own.fullK (Nat.le_refl _) rfl rfl (by omega)).keepR HK4.out (by omega)) A4 n4 c4 xs (by rfl) R4.out (by omega) (by omega) ?_; intro A6 c6 w6 own6 hb6 hk6 hg6 hz6))
      go_ret
      rw [HG.out]
      exact ⟨A6, 1 + n4, c6, rfl, own6.wrK.wider hz2 (Nat.le_refl _), own6.cap, S4.out.belowB hb6 (by omega), ((K2.out.thenB (below_size.alloc (Nat.le_refl _) _) hz2).trans HK4.out).thenB hb6 hz2⟩
    have g4 : (c == 116) = false := by rw [beq_eq_false_iff_ne]; exact n3
    by_cases n4 : c = 40
    · subst n4
      obtain ⟨⟨xs, R3, b3, l3⟩, hx⟩ : ∃ x, ixE F (r, false, l - 1) = x := ⟨_, rfl⟩
      have HX := Lib.hid hx
      rw [hx] at HQ
      have q1 := HQ.out.low.2 hl0; have q2 := HQ.out.len; have q3 := HQ.out.left
      simp only at q1 q2 q3
      have HQ2 := Lib.hid (ixE_ok F (tkR R3, b3, l3))
      obtain ⟨⟨ys, R5, b5, l5⟩, hy⟩ : ∃ x, ixE F (tkR R3, b3, l3) = x := ⟨_, rfl⟩
      have HY := Lib.hid hy
      rw [hy] at HQ2
      have q4 := HQ2.out.low; have q5 := HQ2.out.len; have q6 := HQ2.out.left
      simp only at q4 q5 q6
      have q7 : -3300 ≤ l5 := by
        rcases Int.lt_or_le l3 0 with h0 | h0
        · have := q4.1 h0; omega
        · have := q4.2 h0; omega
      have HG := Lib.hid (show ixP (ixE F) 40 r (l - 1) = (((if pkR R3 = 63 then 5 else 2), 0) :: (xs ++ ys), (tkR R5, b5, l5)) by rw [ixP, if_neg n1, if_neg n2, if_neg n3, if_pos rfl, hx]; simp only [hy])
      clear hx hy q4
      by_cases h63 : pkR R3 = 63
      · have HK := Lib.hid (show (if pkR R3 = 63 then (5 : Int) else 2) = 5 from if_pos h63)
        have H6 := Lib.hid h63
        have e63 : pkR R3 = 63 := h63
        clear h63
        go_enter Tryd.func46, Tryd.ntmps46
        go_wp2_with fail
        refine (HT.out).mono ?_
        rintro e w2 ⟨rfl, hs2, hk2⟩
        have S2 := Lib.hid hs2; have K2 := Lib.hid (K1.out.trans hk2); have hz2 := K2.out.size
        clear hs2 hk2
        go_wp2_with fail
        refine (HIH.out (r, false, l - 1) _ S2.out (by simp only; omega) (by simp only; omega) (by simp only; omega)).mono ?_
        rw [HX.out]
        rintro e w3 ⟨A3, n3, c3, rfl, hw3, hn3, hs3, hk3⟩
        have hl3 : xs.length = n3 := Rd2.len hw3.rd
        have S3 := Lib.hid hs3; have K3 := Lib.hid (K2.out.trans hk3); have hz3 := hk3.size
        have W3 := Lib.hid (show Wr w3 w2.heap.size w3.heap.size A3 (n3 * 2) (xs.flatMap enc2) from hw3)
        clear hw3 hs3 hk3
        go_wp2_with fail
        refine (take_c g L (R3, b3, l3) w3 S3.out).mono ?_
        simp only
        rintro e w4 ⟨rfl, hs4, hk4⟩
        have S4 := Lib.hid hs4; have K4 := Lib.hid (K3.out.trans hk4); have hz4 := hk4.size
        have W4 := Lib.hid (W3.out.keep hk4 (.inr (by omega)))
        clear hs4 hk4
        go_wp2_with fail
        refine (HIH.out (tkR R3, b3, l3) _ S4.out (by simp only; omega) (by simp only; omega) (by simp only; omega)).mono ?_
        rw [HY.out]
        rintro e w5 ⟨A5, n5, c5, rfl, hw5, hn5, hs5, hk5⟩
        have hl5 : ys.length = n5 := Rd2.len hw5.rd
        have S5 := Lib.hid hs5; have K5 := Lib.hid (K4.out.trans hk5); have hz5 := hk5.size
        have W5 := Lib.hid (W4.out.keep hk5 (.inr (by omega)))
        have V5 := Lib.hid (show Wr w5 w4.heap.size w5.heap.size A5 (n5 * 2) (ys.flatMap enc2) from hw5)
        clear hw5 hs5 hk5
        go_wp2_with fail
        refine (take_c g L (R5, b5, l5) w5 S5.out).mono ?_
        simp only
        rintro e w6 ⟨rfl, hs6, hk6⟩
        have S6 := Lib.hid hs6; have K6 := Lib.hid (K5.out.trans hk6); have hz6 := hk6.size
        have W6 := Lib.hid (W5.out.keep hk6 (.inr (by omega)))
        have V6 := Lib.hid (V5.out.keep hk6 (.inr (by omega)))
        clear hs6 hk6
        obtain ⟨w8, hw8⟩ : ∃ w8, (w6.alloc (.cells #[i64 5, i64 0] 77)).alloc (.cells #[.slice (some ⟨w6.heap.size, 0, none⟩) 1 1, .slice A3 n3 c3, .slice A5 n5 c5] 40) = w8 := ⟨_, rfl⟩
        have E8 := Lib.hid (show Below w6.heap.size w6 w8 by rw [← hw8]; exact (below_size.alloc (Nat.le_refl _) _).alloc (by simp) _)
        have B7 := Lib.hid (show Blk w8 w6.heap.size 77 #[i64 5, i64 0] by rw [← hw8]; exact (Blk.new _ _ _).alloc _)
        have B8 := Lib.hid (show Blk w8 (w6.heap.size + 1) 40 #[.slice (some ⟨w6.heap.size, 0, none⟩) 1 1, .slice A3 n3 c3, .slice A5 n5 c5] by
          rw [← hw8]
          have hz : (w6.alloc (.cells #[i64 5, i64 0] 77)).heap.size = w6.heap.size + 1 := by simp
          rw [← hz]; exact Blk.new _ _ _)
        have hz8 := E8.out.size
        go_wp2_with (go_at_call 61; refine (concatExpr_c _ 3 3 [⟨some ⟨w6.heap.size, 0, none⟩, 1, 1, [i64 5, i64 0]⟩, ⟨A3, n3, c3, xs.flatMap enc2⟩, ⟨A5, n5, c5, ys.flatMap enc2⟩] w8 ⟨B8.out.rd (n := 3) rfl (by simp), (by
            intro t ht
            simp only [List.mem_cons, List.not_mem_nil, or_false] at ht
            rcases ht with rfl | rfl | rfl
            · exact B7.out.rd (n := 2) rfl (by simp)
            · exact W6.out.rd.below E8.out
            · exact V6.out.rd.below E8.out), (by
            intro t ht u hu
            simp only [List.mem_cons, List.not_mem_nil, or_false] at ht
            rcases ht with rfl | rfl | rfl
            · simp only [List.mem_cons, List.not_mem_nil, or_false] at hu; rcases hu with rfl | rfl <;> rfl
            · exact one_pairs xs u hu
            · exact one_pairs ys u hu)⟩ (by omega) (by simp [sumV]; omega)).mono ?_; rintro e w9 ⟨A9, c9, rfl, hw9, hc9, hb9⟩)
        go_ret
        rw [HG.out, HK.out]
        refine ⟨A9, _, c9, rfl, ?_, hc9, (S6.out.belowB E8.out (by omega)).belowB hb9 (by omega), (K6.out.thenB E8.out (by omega)).thenB hb9 (by omega)⟩
        have h9 := hw9.wider (lo' := w.heap.size) (by omega) (Nat.le_refl _)
        simp only [List.flatMap_cons, List.flatMap_nil, List.append_nil] at h9
        rw [List.flatMap_cons, List.flatMap_append]
        exact h9
      · have HK := Lib.hid (show (if pkR R3 = 63 then (5 : Int) else 2) = 2 from if_neg h63)
        have e63 : (pkR R3 == 63) = false := by rw [beq_eq_false_iff_ne]; exact h63
        clear h63
        go_enter Tryd.func46, Tryd.ntmps46
        go_wp2_with fail
        refine (HT.out).mono ?_
        rintro e w2 ⟨rfl, hs2, hk2⟩
        have S2 := Lib.hid hs2; have K2 := Lib.hid (K1.out.trans hk2); have hz2 := K2.out.size
        clear hs2 hk2
        go_wp2_with fail
        refine (HIH.out (r, false, l - 1) _ S2.out (by simp only; omega) (by simp only; omega) (by simp only; omega)).mono ?_
        rw [HX.out]
        rintro e w3 ⟨A3, n3, c3, rfl, hw3, hn3, hs3, hk3⟩
        have hl3 : xs.length = n3 := Rd2.len hw3.rd
        have S3 := Lib.hid hs3; have K3 := Lib.hid (K2.out.trans hk3); have hz3 := hk3.size
        have W3 := Lib.hid (show Wr w3 w2.heap.size w3.heap.size A3 (n3 * 2) (xs.flatMap enc2) from hw3)
        clear hw3 hs3 hk3
        go_wp2_with fail
        refine (take_c g L (R3, b3, l3) w3 S3.out).mono ?_
        simp only
        rintro e w4 ⟨rfl, hs4, hk4⟩
        have S4 := Lib.hid hs4; have K4 := Lib.hid (K3.out.trans hk4); have hz4 := hk4.size
        have W4 := Lib.hid (W3.out.keep hk4 (.inr (by omega)))
        clear hs4 hk4
        go_wp2_with fail
        refine (HIH.out (tkR R3, b3, l3) _ S4.out (by simp only; omega) (by simp only; omega) (by simp only; omega)).mono ?_
        rw [HY.out]
        rintro e w5 ⟨A5, n5, c5, rfl, hw5, hn5, hs5, hk5⟩
        have hl5 : ys.length = n5 := Rd2.len hw5.rd
        have S5 := Lib.hid hs5; have K5 := Lib.hid (K4.out.trans hk5); have hz5 := hk5.size
        have W5 := Lib.hid (W4.out.keep hk5 (.inr (by omega)))
        have V5 := Lib.hid (show Wr w5 w4.heap.size w5.heap.size A5 (n5 * 2) (ys.flatMap enc2) from hw5)
        clear hw5 hs5 hk5
        go_wp2_with fail
        refine (take_c g L (R5, b5, l5) w5 S5.out).mono ?_
        simp only
        rintro e w6 ⟨rfl, hs6, hk6⟩
        have S6 := Lib.hid hs6; have K6 := Lib.hid (K5.out.trans hk6); have hz6 := hk6.size
        have W6 := Lib.hid (W5.out.keep hk6 (.inr (by omega)))
        have V6 := Lib.hid (V5.out.keep hk6 (.inr (by omega)))
        clear hs6 hk6
        obtain ⟨w8, hw8⟩ : ∃ w8, (w6.alloc (.cells #[i64 2, i64 0] 77)).alloc (.cells #[.slice (some ⟨w6.heap.size, 0, none⟩) 1 1, .slice A3 n3 c3, .slice A5 n5 c5] 40) = w8 := ⟨_, rfl⟩
        have E8 := Lib.hid (show Below w6.heap.size w6 w8 by rw [← hw8]; exact (below_size.alloc (Nat.le_refl _) _).alloc (by simp) _)
        have B7 := Lib.hid (show Blk w8 w6.heap.size 77 #[i64 2, i64 0] by rw [← hw8]; exact (Blk.new _ _ _).alloc _)
        have B8 := Lib.hid (show Blk w8 (w6.heap.size + 1) 40 #[.slice (some ⟨w6.heap.size, 0, none⟩) 1 1, .slice A3 n3 c3, .slice A5 n5 c5] by
          rw [← hw8]
          have hz : (w6.alloc (.cells #[i64 2, i64 0] 77)).heap.size = w6.heap.size + 1 := by simp
          rw [← hz]; exact Blk.new _ _ _)
        have hz8 := E8.out.size
        go_wp2_with (go_at_call 61; refine (concatExpr_c _ 3 3 [⟨some ⟨w6.heap.size, 0, none⟩, 1, 1, [i64 2, i64 0]⟩, ⟨A3, n3, c3, xs.flatMap enc2⟩, ⟨A5, n5, c5, ys.flatMap enc2⟩] w8 ⟨B8.out.rd (n := 3) rfl (by simp), (by
            intro t ht
            simp only [List.mem_cons, List.not_mem_nil, or_false] at ht
            rcases ht with rfl | rfl | rfl
            · exact B7.out.rd (n := 2) rfl (by simp)
            · exact W6.out.rd.below E8.out
            · exact V6.out.rd.below E8.out), (by
            intro t ht u hu
            simp only [List.mem_cons, List.not_mem_nil, or_false] at ht
            rcases ht with rfl | rfl | rfl
            · simp only [List.mem_cons, List.not_mem_nil, or_false] at hu; rcases hu with rfl | rfl <;> rfl
            · exact one_pairs xs u hu
            · exact one_pairs ys u hu)⟩ (by omega) (by simp [sumV]; omega)).mono ?_; rintro e w9 ⟨A9, c9, rfl, hw9, hc9, hb9⟩)
        go_ret
        rw [HG.out, HK.out]
        refine ⟨A9, _, c9, rfl, ?_, hc9, (S6.out.belowB E8.out (by omega)).belowB hb9 (by omega), (K6.out.thenB E8.out (by omega)).thenB hb9 (by omega)⟩
        have h9 := hw9.wider (lo' := w.heap.size) (by omega) (Nat.le_refl _)
        simp only [List.flatMap_cons, List.flatMap_nil, List.append_nil] at h9
        rw [List.flatMap_cons, List.flatMap_append]
        exact h9
    have g5 : (c == 40) = false := by rw [beq_eq_false_iff_ne]; exact n4
    have HG := Lib.hid (show ixP (ixE F) c r (l - 1) = ([(1, c - 48)], (r, decide (c < 48) || decide (57 < c), l - 1)) by rw [ixP, if_neg n1, if_neg n2, if_neg n3, if_neg n4])
    clear n1 n2 n3 n4
    go_enter Tryd.func46, Tryd.ntmps46
    go_wp2_with (first
      | (go_at_call 45; refine (HT.out).mono ?_; rintro e w2 ⟨rfl, hs2, hk2⟩)
      | (go_at_call 48; refine (digit_c g L (r, false, l - 1) c w2 hs2 hcb).mono ?_; rintro e w3 ⟨rfl, hs3, hk3⟩))
    go_ret
    rw [HG.out]
    exact IxOut.leaf (by first | exact hs3 | (simp only [Bool.false_or] at hs3; exact hs3)) ((K1.out.trans hk2).trans hk3)

/-- the state of the reader between commands -/
structure QS (st : RS) : Prop where
  low : -3300 ≤ st.2.2
  high : st.2.2 ≤ 3200
  good : st.2.1 = false → 0 ≤ st.2.2
theorem ixE_QS {F : Nat} {st : RS} (h0 : 0 ≤ st.2.2) (h1 : st.2.2 ≤ 3200) : QS (ixE F st).2 := by
  have h := ixE_ok F st
  have := h.low.2 h0; have := h.left
  exact ⟨by omega, by omega, h.good⟩
theorem ixC_ok : ∀ (F : Nat) (p : List Cmd) (st : RS), QS st → QS (ixC F p st).2 ∧ (ixC F p st).1.length + (ixC F p st).2.1.length ≤ p.length + st.1.length
  | 0, p, st, h => ⟨h, Nat.le_refl _⟩
  | F + 1, p, st, h => by
    by_cases he : pkR st.1 = 0 ∨ pkR st.1 = 125 ∨ st.2.1 = true
    · rw [ixC_end he]; exact ⟨h, Nat.le_refl _⟩
    have hb : st.2.1 = false := by cases hq : st.2.1; rfl; exact absurd (.inr (.inr hq)) he
    have hl := h.good hb
    have ht := tkR_lt (fun e => he (.inl e))
    rw [ixC_go he]
    unfold ixD
    split
    · obtain ⟨h1, h2⟩ := ixC_ok F p (tkR st.1, false, st.2.2) ⟨h.low, h.high, fun _ => hl⟩
      exact ⟨h1, by simp only at h2; omega⟩
    split
    · have e1 := ixE_QS (F := 3201) (st := (tkR st.1, false, st.2.2)) hl h.high
      have e2 := (ixE_ok 3201 (tkR st.1, false, st.2.2)).rest
      obtain ⟨e, he'⟩ : ∃ e, ixE 3201 (tkR st.1, false, st.2.2) = e := ⟨_, rfl⟩
      rw [he'] at e1 e2 ⊢
      obtain ⟨b1, b2⟩ := ixC_ok F [] (tkR e.2.1, e.2.2) ⟨e1.low, e1.high, e1.good⟩
      obtain ⟨b, hb'⟩ : ∃ b, ixC F [] (tkR e.2.1, e.2.2) = b := ⟨_, rfl⟩
      rw [hb'] at b1 b2 ⊢
      obtain ⟨h1, h2⟩ := ixC_ok F (p ++ (1, 0, (b.1.length : Int), e.1) :: b.1) (tkR b.2.1, b.2.2) ⟨b1.low, b1.high, b1.good⟩
      refine ⟨h1, ?_⟩
      have := tkR_len e.2.1; have := tkR_len b.2.1
      simp only [List.length_append, List.length_cons, List.length_nil] at h2 b2 e2 ⊢
      omega
    · have e1 := ixE_QS (F := 3201) (st := (tkR (tkR st.1), decide (pkR st.1 < 48) || decide (57 < pkR st.1), st.2.2)) hl h.high
      have e2 := (ixE_ok 3201 (tkR (tkR st.1), decide (pkR st.1 < 48) || decide (57 < pkR st.1), st.2.2)).rest
      obtain ⟨e, he'⟩ : ∃ e, ixE 3201 (tkR (tkR st.1), decide (pkR st.1 < 48) || decide (57 < pkR st.1), st.2.2) = e := ⟨_, rfl⟩
      rw [he'] at e1 e2 ⊢
      obtain ⟨h1, h2⟩ := ixC_ok F (p ++ [(0, pkR st.1 - 48, 0, e.1)]) e.2 e1
      refine ⟨h1, ?_⟩
      have := tkR_len (tkR st.1)
      simp only [List.length_append, List.length_cons, List.length_nil] at h2 e2 ⊢
      omega
theorem ixD_semi {go : List Cmd → RS → List Cmd × RS} {p : List Cmd} {r : List Int} {left : Int} : ixD go p 59 r left = go p (r, false, left) := by rw [ixD, if_pos rfl]
theorem ixD_while {go : List Cmd → RS → List Cmd × RS} {p B : List Cmd} {r r2 r3 : List Int} {left : Int} {xs : List (Int × Int)} {s2 s3 : Bool × Int} (he : ixE 3201 (r, false, left) = (xs, r2, s2)) (hb : go [] (tkR r2, s2) = (B, r3, s3)) : ixD go p 119 r left = go (p ++ (1, 0, (B.length : Int), xs) :: B) (tkR r3, s3) := by
  rw [ixD, if_neg (by decide), if_pos rfl, he]
  simp only [hb]
theorem ixD_set {go : List Cmd → RS → List Cmd × RS} {p : List Cmd} {c : Int} {r : List Int} {left : Int} {xs : List (Int × Int)} {s2 : RS} (h1 : c ≠ 59) (h2 : c ≠ 119) (he : ixE 3201 (tkR r, decide (c < 48) || decide (57 < c), left) = (xs, s2)) : ixD go p c r left = go (p ++ [(0, c - 48, 0, xs)]) s2 := by
  rw [ixD, if_neg h1, if_neg h2, he]
theorem sizeCmd_c (A : Option Addr) (n c : Nat) (w : World) : Calls Tryd.prog 47 #[.slice A n c] w fun e w' => e = .returned (.int .i64 n) ∧ w = w' := by
  go_enter Tryd.func47, Tryd.ntmps47
  go_wp2_with fail
  go_ret
  exact ⟨rfl, rfl⟩
theorem OwnCs.keepR {g : Nat} {w w' : World} {B : Nat} {A : Option Addr} {n c : Nat} {js : List Ct} (h : OwnCs w B A n c js) (hk : KeepR g (g + 1) w w') (hg : g < B) : OwnCs w' B A n c js := OwnS.move h (fun b h1 h2 => hk.block b h2 (.inr (by omega))) hk.size
/-- the runes that are left -/
def rdLen (w : World) (g : Nat) : Nat := match w.cell? ⟨g, 0, none⟩ with
  | some (.slice _ n _) => n
  | _ => 0
theorem RdrS.rdLen {g L : Nat} {st : RS} {w : World} (h : RdrS g L st w) : rdLen w g = st.1.length := by
  obtain ⟨RA, rn, rc, h1, h2, _⟩ := h.mem
  have c0 : w.cell? ⟨g, 0, none⟩ = some (.slice RA rn rc) := h1.cell 0
  have := h2.1; rw [List.length_map] at this
  rw [Go.Proofs.YtkchgjegdmcnaaaDoor.rdLen, c0, this]
/-- commands that the reader gives, in memory of the call's own -/
def IxcOut (g L : Nat) (r : List Cmd × RS) (w : World) (e : Ending) (w' : World) : Prop := ∃ A n c js, e = .returned (.slice A n c) ∧ OwnCs w' w.heap.size A n c js ∧ js.map datC = r.1 ∧ (∀ t ∈ js, t.n ≤ t.c ∧ t.n ≤ 10000) ∧ RdrS g L r.2 w' ∧ KeepR g (g + 1) w w'
def CmdsC (g L F : Nat) : Prop := ∀ (st : RS) (w : World), RdrS g L st w → st.1.length ≤ F → QS st → Calls Tryd.prog 25 #[.pointer (some ⟨g, 0, none⟩)] w (IxcOut g L (ixC F [] st) w)
set_option maxHeartbeats 8000000 in
set_option maxRecDepth 100000 in
theorem commands_s (g L F : Nat) (IH : ∀ k, k < F → CmdsC g L k) : CmdsC g L F := by
  intro st0 w h hF hq
  obtain ⟨R, hR⟩ : ∃ R, ixC F [] st0 = R := ⟨_, rfl⟩
  rw [hR]
  have HIH := Lib.hid IH
  have hgL := h.glt; have hLw := h.llt
  have H0 := Lib.hid h; have HQ0 := Lib.hid hq; have HR := Lib.hid hR; have HF0 := Lib.hid hF
  clear IH h hq hR hF
  go_enter Tryd.func25, Tryd.ntmps25
  go_wp2_with fail
  go_loopw [3] (fun ov wr => ∃ (m cc : Nat) (O : Option Addr) (js : List Ct) (F' : Nat) (st : RS), ov = .slice O m cc ∧ Hid (ixC F' (js.map datC) st = R) ∧ Hid (st.1.length ≤ F') ∧ Hid (F' ≤ F) ∧ Hid (QS st) ∧ Hid (RdrS g L st wr) ∧ Hid (OwnCs wr w.heap.size O m cc js) ∧ Hid (∀ t ∈ js, t.n ≤ t.c ∧ t.n ≤ 10000) ∧ Hid (m + st.1.length ≤ 2000000) ∧ Hid (KeepR g (g + 1) w wr)) (fun _ wr => rdLen wr g)
  case atStart => exact ⟨0, 0, some ⟨w.heap.size, 0, none⟩, [], F, st0, rfl, HR.out, HF0.out, Nat.le_refl _, HQ0.out, H0.out.alloc _, OwnS.nil (Own.litK (Nat.le_refl _)), (fun t ht => by cases ht), by have := H0.out.len; unfold Hid; omega, KeepR.of_below (below_size.alloc (Nat.le_refl _) _)⟩
  case round =>
    clear HR H0 HQ0 HF0
    obtain ⟨m, cc, O, js, F', ⟨Q, b, l⟩, rfl, hM, hF, hFF, hQ, hS, hO, hj, hml, hK⟩ := hrel
    have hzr := hK.out.size
    obtain ⟨RA, rn, rc, hm1, _⟩ := hS.out.mem
    simp only at hm1
    have k1 : wr.cell? ⟨g, 1, none⟩ = some (.bool b) := hm1.cell 1
    have HPK := Lib.hid (peek_c g L (Q, b, l) wr hS.out)
    have hcb := pkR_bd hS.out
    have HLT := Lib.hid (fun e : pkR Q ≠ 0 => tkR_lt e)
    have HMS := Lib.hid hS.out.rdLen
    have HTK := Lib.hid (take_c g L (Q, b, l) wr hS.out)
    have HE := Lib.hid (fun e : pkR Q = 0 ∨ pkR Q = 125 ∨ b = true => ixC_end (F := F') (p := js.map datC) (st := (Q, b, l)) e)
    have HGO := Lib.hid (fun (F : Nat) (e : ¬ (pkR Q = 0 ∨ pkR Q = 125 ∨ b = true)) => ixC_go (F := F) (p := js.map datC) (st := (Q, b, l)) e)
    obtain ⟨c, hc⟩ : ∃ c, pkR Q = c := ⟨_, rfl⟩
    obtain ⟨r, hr⟩ : ∃ r, tkR Q = r := ⟨_, rfl⟩
    simp only at hcb HPK HTK HGO HMS
    rw [hc] at HPK hcb HTK HE
    rw [hr] at HTK
    simp only [hc, hr] at HLT HGO
    have HC := Lib.hid hc
    clear hm1 hc hr
    by_cases he : c = 0 ∨ c = 125 ∨ b = true
    · have HG := Lib.hid (show (js.map datC, ((Q, b, l) : RS)) = R by rw [← hM.out, HE.out he])
      clear hM HTK HLT HGO HMS
      by_cases h0 : c = 0
      · subst h0
        go_wp2_with (go_at_call 44; refine (HPK.out).mono ?_; rintro e w' ⟨rfl, rfl⟩)
        go_ret
        rw [← HG.out]
        exact ⟨O, m, cc, js, rfl, hO.out, rfl, hj.out, hS.out, hK.out⟩
      have g0 : (c == 0) = false := by rw [beq_eq_false_iff_ne]; exact h0
      have g0' : (c != 0) = true := by rw [bne_iff_ne]; exact h0
      by_cases h1 : c = 125
      · subst h1
        go_wp2_with (go_at_call 44; refine (HPK.out).mono ?_; rintro e w' ⟨rfl, rfl⟩)
        go_ret
        rw [← HG.out]
        exact ⟨O, m, cc, js, rfl, hO.out, rfl, hj.out, hS.out, hK.out⟩
      have g1 : (c == 125) = false := by rw [beq_eq_false_iff_ne]; exact h1
      have g1' : (c != 125) = true := by rw [bne_iff_ne]; exact h1
      obtain rfl : b = true := by rcases he with he | he | he; exact absurd he h0; exact absurd he h1; exact he
      clear h0 h1 he
      go_wp2_with (go_at_call 44; refine (HPK.out).mono ?_; rintro e w' ⟨rfl, rfl⟩)
      go_ret
      rw [← HG.out]
      exact ⟨O, m, cc, js, rfl, hO.out, rfl, hj.out, hS.out, hK.out⟩
    have g0 : (c == 0) = false := by rw [beq_eq_false_iff_ne]; exact fun e => he (.inl e)
    have g1 : (c == 125) = false := by rw [beq_eq_false_iff_ne]; exact fun e => he (.inr (.inl e))
    have g0' : (c != 0) = true := by rw [bne_iff_ne]; exact fun e => he (.inl e)
    have g1' : (c != 125) = true := by rw [bne_iff_ne]; exact fun e => he (.inr (.inl e))
    obtain rfl : b = false := by cases b; rfl; exact absurd (.inr (.inr rfl)) he
    have hlen : r.length + 1 = Q.length := HLT.out (fun e => he (.inl e))
    obtain ⟨F', rfl⟩ : ∃ f, F' = f + 1 := ⟨F' - 1, by have h5 := hF.out; simp only at h5; omega⟩
    have HM := Lib.hid (show ixD (ixC F') (js.map datC) c r l = R by rw [← hM.out, HGO.out F' he])
    have hl0 : 0 ≤ l := hQ.out.good rfl
    have hl1 : l ≤ 3200 := hQ.out.high
    have HFr := Lib.hid (show r.length ≤ F' by have h5 := hF.out; simp only at h5; omega)
    have HFk := Lib.hid (show F' < F from hFF.out)
    have hmr : m + r.length + 1 ≤ 2000000 := by have h5 := hml.out; simp only at h5; omega
    clear hM HE HGO HLT he hF hFF hml
    by_cases n1 : c = 59
    · subst n1
      have HN := Lib.hid (show ixC F' (js.map datC) (r, false, l) = R by rw [← HM.out, ixD_semi])
      clear HM
      go_wp2_with (first
        | (go_at_call 44; refine (HPK.out).mono ?_; rintro e w' ⟨rfl, rfl⟩)
        | (go_at_call 45; refine (HTK.out).mono ?_; rintro e w2 ⟨rfl, hs2, hk2⟩))
      go_roundw
      case rel => exact ⟨m, cc, O, js, F', (r, false, l), rfl, HN.out, HFr.out, by have := HFk.out; unfold Hid; omega, ⟨by simp only; omega, hl1, fun _ => hl0⟩, hs2, hO.out.keepR hk2 (by omega), hj.out, by unfold Hid; simp only; omega, hK.out.trans hk2⟩
      case measure => rw [hs2.rdLen, HMS.out]; simp only; omega
    have g2 : (c == 59) = false := by rw [beq_eq_false_iff_ne]; exact n1
    by_cases n2 : c = 119
    · subst n2
      obtain ⟨⟨xs, r3, b3, l3⟩, hx⟩ : ∃ x, ixE 3201 (r, false, l) = x := ⟨_, rfl⟩
      have HX := Lib.hid hx
      have q0 := ixE_ok 3201 (r, false, l)
      have Q3 := Lib.hid (ixE_QS (F := 3201) (st := (r, false, l)) hl0 hl1)
      rw [hx] at q0 Q3
      have q1 := q0.low.2 hl0; have q2 := q0.len; have q3 := q0.rest
      simp only at q1 q2 q3
      have q4 := tkR_len r3
      have b0 := ixC_ok F' [] (tkR r3, b3, l3) ⟨Q3.out.low, Q3.out.high, Q3.out.good⟩
      obtain ⟨⟨bl, r5, b5, l5⟩, hy⟩ : ∃ x, ixC F' [] (tkR r3, b3, l3) = x := ⟨_, rfl⟩
      have HY := Lib.hid hy
      rw [hy] at b0
      obtain ⟨b1, b2⟩ := b0
      have Q5 := Lib.hid b1
      simp only [List.length_nil] at b2
      have q5 := tkR_len r5
      have HN := Lib.hid (show ixC F' (js.map datC ++ (1, 0, (bl.length : Int), xs) :: bl) (tkR r5, b5, l5) = R by rw [← HM.out, ixD_while hx hy])
      have HBODY := Lib.hid (HIH.out F' HFk.out (tkR r3, b3, l3))
      rw [hy] at HBODY
      clear HM hx hy q0 b1 g2
      go_wp2_with (first
        | (go_at_call 44; refine (HPK.out).mono ?_; rintro e w' ⟨rfl, rfl⟩)
        | (go_at_call 45; refine (HTK.out).mono ?_; rintro e w2 ⟨rfl, hs2, hk2⟩; have S2 := Lib.hid hs2; have K2 := Lib.hid hk2; have hz2 := hk2.size; clear hs2 hk2)
        | (go_at_call 46; refine (expr_c g L 3201 (r, false, l) _ S2.out (by first | omega | (simp only; omega)) (by first | omega | (simp only; omega)) (by first | omega | (simp only; omega))).mono ?_; rw [HX.out]; rintro e w3 ⟨A3, n3, c3, rfl, hw3, hn3, hs3, hk3⟩; have hl3 : xs.length = n3 := Rd2.len hw3.rd; have S3 := Lib.hid hs3; have K3 := Lib.hid (K2.out.trans hk3); have hz3 := hk3.size; have W3 := Lib.hid (show Wr w3 w2.heap.size w3.heap.size A3 (n3 * 2) (xs.flatMap enc2) from hw3); clear hw3 hs3 hk3))
      refine (take_c g L (r3, b3, l3) w3 S3.out).mono ?_
      try simp only
      rintro e w4 ⟨rfl, hs4, hk4⟩
      have S4 := Lib.hid hs4; have K4 := Lib.hid (K3.out.trans hk4); have hz4 := hk4.size
      have W4 := Lib.hid (W3.out.keep hk4 (.inr (by omega)))
      clear hs4 hk4
      go_wp2_with fail
      refine (HBODY.out w4 S4.out (by have := HFr.out; show (tkR r3).length ≤ F'; omega) ⟨Q3.out.low, Q3.out.high, Q3.out.good⟩).mono ?_
      rintro e w5 ⟨A5, n5, c5, bs5, rfl, hO5, hj5, ht5, hs5, hk5⟩
      have S5 := Lib.hid hs5; have K5 := Lib.hid (K4.out.trans hk5); have hz5 := hk5.size
      have W5 := Lib.hid (W4.out.keep hk5 (.inr (by omega)))
      have O5 := Lib.hid hO5; have J5 := Lib.hid hj5; have T5 := Lib.hid ht5
      have hbl : bl.length = n5 := by have h9 : bs5.map datC = bl := hj5; rw [← h9, List.length_map, OwnCs.len hO5]
      have HBL := Lib.hid hbl
      clear hO5 hj5 ht5 hs5 hk5
      go_wp2_with fail
      refine (take_c g L (r5, b5, l5) w5 S5.out).mono ?_
      try simp only
      rintro e w6 ⟨rfl, hs6, hk6⟩
      have S6 := Lib.hid hs6; have K6 := Lib.hid (K5.out.trans hk6); have hz6 := hk6.size
      have W6 := Lib.hid (W5.out.keep hk6 (.inr (by omega)))
      have O6 := Lib.hid (O5.out.keepR hk6 (by omega))
      have P6 := Lib.hid (hO.out.keepR K6.out (by omega))
      rw [hbl] at b2
      clear hs6 hk6 hbl
      go_wp2_with (first
        | (go_at_call 47; refine (sizeCmd_c A5 n5 c5 _).mono ?_; rintro e w' ⟨rfl, rfl⟩)
        | (at_builtin; first
          | (refine wp_appCmdG (by rfl) _ _ (by rfl) w.heap.size O _ cc js (by rfl) (by exact P6.out.alloc _) wr.heap.size hzr hO.out.bndA (fun s hs a ha hn => (hO.out.bndS s hs a ha hn).2) w6.heap.size ⟨1, 0, (n5 : Int), A3, n3, c3, xs⟩ (by rfl) (by exact Blk.new _ _ _) (by exact (W6.out.alloc _).wider hz2 (by simp; omega)) (by omega) (by simp; omega) ?_; intro A8 c8 w8 own8 hb8 hk8 hg8 hz8; have hap := cmds_apart (t := ⟨1, 0, (n5 : Int), A3, n3, c3, xs⟩) (L := wr.heap.size) (L2 := w4.heap.size) hO.out.bndA (fun s hs a ha hn => (hO.out.bndS s hs a ha hn).2) (fun a ha hn => by obtain ⟨a', e', _, h9, _⟩ := W6.out.2 hn; have e2 : A3 = some a := ha; rw [e2] at e'; injection e' with e'; subst e'; omega) (by omega) (O6.out.alloc _) hg8; have O8 := Lib.hid own8; have B8 := Lib.hid hb8; have AP := Lib.hid hap; have P8 := Lib.hid (OwnS.move (O6.out.alloc _) (fun b h1 h2 => hk8 b h2 (fun ad ha => by have := hO.out.bndA ad ha; omega)) hz8); have z8 := hz8; clear own8 hb8 hk8 hg8 hz8 hap)
          | (refine wp_appCmdsG (by rfl) _ _ (by rfl) w.heap.size A8 _ c8 (js ++ [⟨1, 0, (n5 : Int), A3, n3, c3, xs⟩]) (by rfl) O8.out w4.heap.size (by omega) A5 n5 c5 bs5 (by rfl) P8.out AP.out.1 AP.out.2 (by omega) (by simp at z8; omega) ?_; intro A9 c9 w9 own9 hb9 hz9 hk9)))
      have O9 := Lib.hid own9
      have E9 := Lib.hid (show Below w.heap.size w6 w9 from ((below_size (w := w6)).mono (by omega) |>.alloc (by omega) _ |>.trans B8.out).trans hb9)
      clear own9 hb9 hk9 hz9
      go_roundw
      case rel =>
        refine ⟨_, c9, A9, (js ++ [(⟨1, 0, (n5 : Int), A3, n3, c3, xs⟩ : Ct)]) ++ bs5, F', (tkR r5, b5, l5), rfl, ?_, ?_, by have := HFk.out; unfold Hid; omega, ⟨Q5.out.low, Q5.out.high, Q5.out.good⟩, S6.out.belowB E9.out hLw, O9.out, ?_, ?_, (hK.out.trans K6.out).thenB E9.out (Nat.le_refl _)⟩
        · unfold Hid; rw [List.map_append, List.map_append, J5.out, List.append_assoc]; have := HN.out; rw [HBL.out] at this; exact this
        · have := HFr.out; unfold Hid; simp only; omega
        · intro t ht
          rcases List.mem_append.1 ht with ht | ht
          · rcases List.mem_append.1 ht with ht | ht
            · exact hj.out t ht
            · rw [List.mem_singleton] at ht; subst ht; exact ⟨hn3, by show n3 ≤ 10000; omega⟩
          · exact T5.out t ht
        · unfold Hid; simp only; omega
      case measure => rw [(S6.out.belowB E9.out hLw).rdLen, HMS.out]; simp only; omega
    have g3 : (c == 119) = false := by rw [beq_eq_false_iff_ne]; exact n2
    obtain ⟨⟨xs, r3, b3, l3⟩, hx⟩ : ∃ x, ixE 3201 (tkR r, decide (c < 48) || decide (57 < c), l) = x := ⟨_, rfl⟩
    have HX := Lib.hid hx
    have q0 := ixE_ok 3201 (tkR r, decide (c < 48) || decide (57 < c), l)
    have Q3 := Lib.hid (ixE_QS (F := 3201) (st := (tkR r, decide (c < 48) || decide (57 < c), l)) hl0 hl1)
    rw [hx] at q0 Q3
    have q1 := q0.low.2 hl0; have q2 := q0.len; have q3 := q0.rest
    simp only at q1 q2 q3
    have q4 := tkR_len r
    have HN := Lib.hid (show ixC F' (js.map datC ++ [(0, c - 48, 0, xs)]) (r3, b3, l3) = R by rw [← HM.out, ixD_set n1 n2 hx])
    clear HM hx q0 n1 n2
    go_wp2_with (first
      | (go_at_call 44; refine (HPK.out).mono ?_; rintro e w' ⟨rfl, rfl⟩)
      | (go_at_call 45; refine (HTK.out).mono ?_; rintro e w2 ⟨rfl, hs2, hk2⟩; have S2 := Lib.hid hs2; have K2 := Lib.hid hk2; have hz2 := hk2.size; clear hs2 hk2)
      | (go_at_call 48; refine (digit_c g L (r, false, l) c w2 S2.out hcb).mono ?_; rintro e w3 ⟨rfl, hs3, hk3⟩; have S3 := Lib.hid (show RdrS g L (r, (decide (c < 48) || decide (57 < c)), l) w3 from by first | exact hs3 | (simp only [Bool.false_or] at hs3; exact hs3)); have K3 := Lib.hid (K2.out.trans hk3); have hz3 := hk3.size; clear hs3 hk3))
    refine (take_c g L (r, (decide (c < 48) || decide (57 < c)), l) w3 S3.out).mono ?_
    try simp only
    rintro e w4 ⟨rfl, hs4, hk4⟩
    have S4 := Lib.hid hs4; have K4 := Lib.hid (K3.out.trans hk4); have hz4 := hk4.size
    clear hs4 hk4
    go_wp2_with (first
      | (go_at_call 46; refine (expr_c g L 3201 (tkR r, (decide (c < 48) || decide (57 < c)), l) _ S4.out (by first | omega | (simp only; omega)) (by first | omega | (simp only; omega)) (by first | omega | (simp only; omega))).mono ?_; rw [HX.out]; rintro e w5 ⟨A3, n3, c3, rfl, hw5, hn3, hs5, hk5⟩; have hl3 : xs.length = n3 := Rd2.len hw5.rd; have S5 := Lib.hid hs5; have K5 := Lib.hid (K4.out.trans hk5); have hz5 := hk5.size; have W5 := Lib.hid (show Wr w5 w4.heap.size w5.heap.size A3 (n3 * 2) (xs.flatMap enc2) from hw5); have P5 := Lib.hid (hO.out.keepR (K4.out.trans hk5) (by omega)); clear hw5 hs5 hk5)
      | (at_builtin; refine wp_appCmdG (by rfl) _ _ (by rfl) w.heap.size O _ cc js (by rfl) (by exact P5.out.alloc _) wr.heap.size hzr hO.out.bndA (fun s hs a ha hn => (hO.out.bndS s hs a ha hn).2) w5.heap.size ⟨0, c - 48, 0, A3, n3, c3, xs⟩ (by rfl) (by exact Blk.new _ _ _) (by exact (W5.out.alloc _).wider (by omega) (by simp)) (by omega) (by simp; omega) ?_; intro A6 c6 w6 own6 hb6 hk6 hg6 hz6))
    have O6 := Lib.hid own6
    have E6 := Lib.hid (show Below w.heap.size w5 w6 from ((below_size (w := w5)).mono (by omega) |>.alloc (by omega) _).trans hb6)
    clear own6 hb6 hk6 hg6 hz6
    go_roundw
    case rel =>
      refine ⟨_, c6, A6, js ++ [(⟨0, c - 48, 0, A3, n3, c3, xs⟩ : Ct)], F', (r3, b3, l3), rfl, ?_, ?_, by have := HFk.out; unfold Hid; omega, Q3.out, S5.out.belowB E6.out hLw, O6.out, ?_, ?_, (hK.out.trans K5.out).thenB E6.out (Nat.le_refl _)⟩
      · unfold Hid; rw [List.map_append]; exact HN.out
      · have := HFr.out; unfold Hid; simp only; omega
      · intro t ht
        rcases List.mem_append.1 ht with ht | ht
        · exact hj.out t ht
        · rw [List.mem_singleton] at ht; subst ht; exact ⟨hn3, by show n3 ≤ 10000; omega⟩
      · unfold Hid; simp only; omega
    case measure => rw [(S5.out.belowB E6.out hLw).rdLen, HMS.out]; simp only; omega
theorem commands_c (g L : Nat) : ∀ F, CmdsC g L F := by
  intro F
  induction F using Nat.strongRecOn with
  | _ F ih => exact commands_s g L F ih
end Go.Proofs.YtkchgjegdmcnaaaDoor
