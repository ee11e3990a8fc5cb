/-
  Reading functions: the program's reader in memory (take, need, digit).
-/
import Derived.Test.YtnoapoaajidncaaDoorC11i
import Derived.Test.YtnoapoaajidncaaDoorCTc
namespace Go.Proofs.YtnoapoaajidncaaDoor
open Go.RowKit
open FTr

theorem bs_dataF (l : List UInt8) : (bs l).data.toList = l := by simp [bs]
/-- the reader in memory: its cells are block g -/
structure FrS (g L : Nat) (st : RdSt) (w : World) : Prop where
  blk : Blk w g 32 #[.string (bs st.1), .bool st.2]
  glt : g < L
  llt : L ≤ w.heap.size
  len : st.1.length ≤ 2000
theorem FrS.belowB {g L B : Nat} {st : RdSt} {w w' : World} (h : FrS g L st w) (hb : Below B w w') (hB : L ≤ B) : FrS g L st w' :=
  ⟨h.blk.below hb (by have := h.glt; omega), h.glt, Nat.le_trans h.llt hb.size, h.len⟩
theorem FrS.alloc {g L : Nat} {st : RdSt} {w : World} (h : FrS g L st w) (o : Obj) : FrS g L st (w.alloc o) := h.belowB (below_size.alloc (Nat.le_refl _) o) h.llt
theorem FrS.setText {g L : Nat} {st : RdSt} {w : World} (h : FrS g L st w) (s : List UInt8) (hs : s.length ≤ 2000) : FrS g L (s, st.2) (w.setCell ⟨g, 0, none⟩ (.string (bs s))) :=
  ⟨h.blk.set_ 0 _, h.glt, by rw [World.size_setCell]; exact h.llt, hs⟩
theorem FrS.setBad {g L : Nat} {st : RdSt} {w : World} (h : FrS g L st w) (b : Bool) : FrS g L (st.1, b) (w.setCell ⟨g, 1, none⟩ (.bool b)) :=
  ⟨h.blk.set_ 1 _, h.glt, by rw [World.size_setCell]; exact h.llt, h.len⟩
theorem keep_setF {g k : Nat} {w : World} (v : Value) : KeepR g (g + 1) w (w.setCell ⟨g, k, none⟩ v) := (KeepR.refl g (g + 1) w).setCell (Nat.le_refl _) (by show g < g + 1; omega) v
theorem cut_c (s p : List UInt8) (w : World) : Calls Tryd.prog 35 #[.string (bs s), .string (bs p)] w fun e w' => e = .returned (.tuple #[.string (bs (tkR p s)), .bool (tkB p s)]) ∧ w = w' := by
  refine (Tryd.strings_CutPrefix (bs s) (bs p) w).mono ?_
  rintro e w' ⟨rfl, rfl⟩
  rw [bs_dataF, bs_dataF]
  exact ⟨rfl, rfl⟩
set_option maxHeartbeats 1000000 in
set_option maxRecDepth 100000 in
theorem takeF_c (g L : Nat) (st : RdSt) (p : List UInt8) (pv : ByteArray) (hp : pv = bs p) (w : World) (h : FrS g L st w) : Calls Tryd.prog 21 #[.pointer (some ⟨g, 0, none⟩), .string pv] w fun e w' => e = .returned (.bool (tkB p st.1)) ∧ FrS g L (tkR p st.1, st.2) w' ∧ KeepR g (g + 1) w w' := by
  subst hp
  obtain ⟨s, b⟩ := st
  have c0 : w.cell? ⟨g, 0, none⟩ = some (.string (bs s)) := h.blk.cell 0
  have f0 := h.blk.frozen 0
  obtain ⟨q, hq⟩ : ∃ q, tkB p s = q := ⟨_, rfl⟩
  obtain ⟨s2, hs2⟩ : ∃ s2, tkR p s = s2 := ⟨_, rfl⟩
  have hl2 : s2.length ≤ s.length := by rw [← hs2]; exact tkR_len p s
  have HC := Lib.hid (show ∀ w, Calls Tryd.prog 35 #[.string (bs s), .string (bs p)] w fun e w' => e = .returned (.tuple #[.string (bs s2), .bool q]) ∧ w = w' from fun w => by
    have := cut_c s p w
    rw [hq, hs2] at this; exact this)
  have H := Lib.hid h
  show Calls Tryd.prog 21 #[.pointer (some ⟨g, 0, none⟩), .string (bs p)] w fun e w' => e = .returned (.bool (tkB p s)) ∧ FrS g L (tkR p s, b) w' ∧ KeepR g (g + 1) w w'
  rw [hq, hs2]
  cases q
  · have HS := Lib.hid (show s2 = s by rw [← hs2, tkR, if_neg (by rw [hq]; simp)])
    clear h hq hs2
    go_enter Tryd.func21, Tryd.ntmps21
    go_wp2_with (go_at_call 35; refine (HC.out _).mono ?_; rintro e w' ⟨rfl, rfl⟩)
    go_ret
    exact ⟨rfl, by rw [HS.out]; exact H.out, KeepR.refl _ _ _⟩
  · clear h hq hs2
    go_enter Tryd.func21, Tryd.ntmps21
    go_wp2_with (go_at_call 35; refine (HC.out _).mono ?_; rintro e w' ⟨rfl, rfl⟩)
    go_ret
    exact ⟨rfl, H.out.setText s2 (by have := H.out.len; simp only at this; omega), keep_setF _⟩
set_option maxHeartbeats 1000000 in
set_option maxRecDepth 100000 in
theorem needF_c (g L : Nat) (st : RdSt) (p : List UInt8) (pv : ByteArray) (hp : pv = bs p) (w : World) (h : FrS g L st w) : Calls Tryd.prog 23 #[.pointer (some ⟨g, 0, none⟩), .string pv] w fun e w' => e = .returned (.tuple #[]) ∧ FrS g L (ndF p st) w' ∧ KeepR g (g + 1) w w' := by
  subst hp
  have HT := Lib.hid (takeF_c g L st p (bs p) rfl w h)
  obtain ⟨q, hq⟩ : ∃ q, tkB p st.1 = q := ⟨_, rfl⟩
  rw [hq] at HT
  obtain ⟨s, b⟩ := st
  have HN := Lib.hid (show ndF p (s, b) = (tkR p s, !q || b) by rw [ndF]; simp only; rw [show tkB p s = q from hq])
  clear h hq
  rw [HN.out]
  obtain ⟨s2, hs2⟩ : ∃ s2, tkR p s = s2 := ⟨_, rfl⟩
  have HT := Lib.hid (show Calls Tryd.prog 21 #[.pointer (some ⟨g, 0, none⟩), .string (bs p)] w fun e w' => e = .returned (.bool q) ∧ FrS g L (s2, b) w' ∧ KeepR g (g + 1) w w' by rw [← hs2]; exact HT.out)
  rw [hs2]
  clear hs2 HN
  cases q
  · go_enter Tryd.func23, Tryd.ntmps23
    go_wp2_with (go_at_call 21; refine (HT.out).mono ?_; rintro e w1 ⟨rfl, hF, hk⟩; have F1 := Lib.hid hF; have K1 := Lib.hid hk; have c1 : w1.cell? ⟨g, 1, none⟩ = some (.bool b) := hF.blk.cell 1; have f1 := hF.blk.frozen 1; clear hF hk)
    go_end0
    exact ⟨rfl, F1.out.setBad true, K1.out.trans (keep_setF _)⟩
  · go_enter Tryd.func23, Tryd.ntmps23
    go_wp2_with (go_at_call 21; refine (HT.out).mono ?_; rintro e w1 ⟨rfl, hF, hk⟩; have F1 := Lib.hid hF; have K1 := Lib.hid hk; have c1 : w1.cell? ⟨g, 1, none⟩ = some (.bool b) := hF.blk.cell 1; have f1 := hF.blk.frozen 1; clear hF hk)
    go_end0
    exact ⟨rfl, F1.out.setBad b, K1.out.trans (keep_setF _)⟩
theorem run_sl1 (c : UInt8) (s : List UInt8) (w : World) : (Instr.slice 9 (.string (bs (c :: s))) (some (.int .i64 1)) none none).run Tryd.prog w = .ok (.string (bs s)) w := by
  have hz : (bs (c :: s)).size = s.length + 1 := by rw [bs_size]; rfl
  have e : (bs (c :: s)).extract 1 (bs (c :: s)).size = bs s := by
    rw [hz]
    apply ByteArray.ext
    rw [ByteArray.data_extract]
    apply Array.ext'
    simp [bs]
  rw [run_slice_string_from_if w 9 (bs (c :: s)) .i64 1 Tryd.underlying9, if_pos ⟨by omega, by rw [hz]; omega⟩]
  exact congrArg (fun x => Result.ok (Value.string x) w) e
set_option maxHeartbeats 1000000 in
set_option maxRecDepth 100000 in
theorem digitF_c (g L : Nat) (st : RdSt) (w : World) (h : FrS g L st w) : Calls Tryd.prog 22 #[.pointer (some ⟨g, 0, none⟩)] w fun e w' => e = .returned (.int .i64 (dgF st).1) ∧ FrS g L (dgF st).2 w' ∧ KeepR g (g + 1) w w' := by
  obtain ⟨s, b⟩ := st
  have c0 : w.cell? ⟨g, 0, none⟩ = some (.string (bs s)) := h.blk.cell 0
  have c1 : w.cell? ⟨g, 1, none⟩ = some (.bool b) := h.blk.cell 1
  have f1 := h.blk.frozen 1
  have f0 := h.blk.frozen 0
  have H := Lib.hid h
  clear h
  cases s with
  | nil =>
    have gl := bs_toListF []
    show Calls Tryd.prog 22 #[.pointer (some ⟨g, 0, none⟩)] w fun e w' => e = .returned (.int .i64 0) ∧ FrS g L ([], true) w' ∧ KeepR g (g + 1) w w'
    go_enter Tryd.func22, Tryd.ntmps22
    go_wp2_with fail
    go_ret
    exact ⟨rfl, H.out.setBad true, keep_setF _⟩
  | cons c s =>
    have gl := bs_toListF (c :: s)
    have ge : ((c :: s) == ([] : List UInt8)) = false := rfl
    have gn : (c :: s).isEmpty = false := rfl
    obtain ⟨x, hx⟩ : ∃ x : Int, (c.toNat : Int) = x := ⟨_, rfl⟩
    have hx0 : 0 ≤ x ∧ x ≤ 255 := by have := UInt8.toNat_lt c; omega
    have hix : ∀ w, (Instr.index 9 (.string (bs (c :: s))) (.int .i64 0)).run Tryd.prog w = .ok (.int .u8 x) w := fun w => run_ixS (k := 0) (s := c :: s) (c := c) rfl hx w
    have hsl := fun w => run_sl1 c s w
    by_cases hd : 48 ≤ x ∧ x ≤ 57
    · have HD := Lib.hid (show dgF (c :: s, b) = (x - 48, (s, b)) by rw [dgF]; simp only; rw [if_pos (by omega), hx])
      rw [HD.out]
      have v1 : IntKind.u8.wrap (x - 48) = x - 48 := by have e := IntWalk.u8_in (x - 48) (by omega); exact e
      have v2 : IntKind.i64.wrap (x - 48) = x - 48 := IntWalk.i64_in _ (by omega)
      clear hx
      go_enter Tryd.func22, Tryd.ntmps22
      go_wp2_with fail
      go_ret
      exact ⟨rfl, H.out.setText s (by have := H.out.len; simp only [List.length_cons] at this; omega), keep_setF _⟩
    · have HD := Lib.hid (show dgF (c :: s, b) = (0, (c :: s, true)) by rw [dgF]; simp only; rw [if_neg (by omega)])
      rw [HD.out]
      clear hx
      by_cases h1 : x < 48
      · go_enter Tryd.func22, Tryd.ntmps22
        go_wp2_with fail
        go_ret
        exact ⟨rfl, H.out.setBad true, keep_setF _⟩
      · have g1 : decide (57 < x) = true := decide_eq_true (by omega)
        clear hd
        go_enter Tryd.func22, Tryd.ntmps22
        go_wp2_with fail
        go_ret
        exact ⟨rfl, H.out.setBad true, keep_setF _⟩
end Go.Proofs.YtnoapoaajidncaaDoor
