/-
  Contracts of chapter 28 (automata): RunDfa and what it calls.
-/
import Derived.Test.YtfahdgmlhinabaaC28
namespace Go.Proofs.Ytfahdgmlhinabaa
open Go.RowKit

def nextOf (xs : List Int) (i : Int) : Int := xs.getD i.toNat 0
def runF (sym : Int) (xs : List Int) : List Int → Int → Int
  | [], now => now
  | s :: ws, now => runF sym xs ws (nextOf xs (now * sym + s))
theorem nextOf_at {xs : List Int} {k : Nat} {x : Int} (h : xs[k]? = some x) : nextOf xs (k : Int) = x := by
  simp [nextOf, List.getD_eq_getElem?_getD, h]
theorem step_bd {now sym s st : Int} (h1 : 2 ≤ sym ∧ sym ≤ 6) (h2 : 1 ≤ st ∧ st ≤ 20) (h3 : 0 ≤ now ∧ now ≤ st - 1) (h4 : 0 ≤ s ∧ s ≤ sym - 1) : 0 ≤ now * sym ∧ now * sym ≤ 114 ∧ 0 ≤ now * sym + s ∧ now * sym + s < st * sym := by
  have a := Int.mul_nonneg h3.1 (show 0 ≤ sym by omega)
  have b := Int.mul_le_mul_of_nonneg_right (show now ≤ st - 1 from h3.2) (show 0 ≤ sym by omega)
  rw [Int.sub_mul] at b
  have c := Int.mul_le_mul (a := now) (b := sym) (c := 19) (d := 6) (by omega) (by omega) (by omega) (by omega)
  omega
/-- what a valid automaton's run needs -/
structure DfaOk (st sym : Int) (xs : List Int) : Prop where
  sy : 2 ≤ sym ∧ sym ≤ 6
  stt : 1 ≤ st ∧ st ≤ 20
  len : (xs.length : Int) = st * sym
  all : ∀ x ∈ xs, 0 ≤ x ∧ x ≤ st - 1
theorem DfaOk.of {st sym : Int} {xs : List Int} (h : dfaB st sym xs = true) : DfaOk st sym xs := by
  obtain ⟨a, b, c, _, d⟩ := dfaB_parts h; exact ⟨a, b, c, d⟩

theorem dfaTo_c (st : Int) (A : Option Addr) (n c : Nat) (xs : List Int) (now s sym : Int) (w : World) (h : RdI w A n xs) (h0 : 0 ≤ now * sym) (h1 : now * sym ≤ 1000000) (h2 : 0 ≤ now * sym + s) (h3 : now * sym + s < n) (hn : n ≤ 1000000) :
    Calls Try.prog 153 #[.agg #[.int .i64 st, .slice A n c], .int .i64 now, .int .i64 s, .int .i64 sym] w fun e w' => e = .returned (.int .i64 (nextOf xs (now * sym + s))) ∧ Below w.heap.size w w' := by
  obtain ⟨k, hk⟩ := Int.eq_ofNat_of_zero_le h2
  have hkn : k < n := by omega
  obtain ⟨ad, x, rfl, hab, hx, hc⟩ := h.at_ hkn
  have HV := Lib.hid (show nextOf xs (now * sym + s) = x by rw [hk]; exact nextOf_at hx)
  have hc' : ∀ o, (w.alloc o).cell? (ad.add k) = some (.int .i64 x) := fun o => keepa o hc
  clear h hx h2 h3
  have hk0 : (0 : Int) ≤ (k : Int) := by omega
  have hk1 : (k : Int) < (n : Int) := by omega
  go_enter Try.func153, Try.ntmps153
  go_wp2
  go_ret
  exact ⟨by rw [HV.out]; rfl, below_size.alloc (Nat.le_refl _) _⟩

set_option maxHeartbeats 1000000 in
theorem l28Run_c (b : Nat) (st sym : Int) (A A' : Option Addr) (n c n' c' : Nat) (xs ws : List Int) (w : World) (h1 : w.cell? ⟨b, 1, none⟩ = some (.slice A n c))
    (h : RdI w A n xs) (h' : RdI w A' n' ws) (hd : DfaOk st sym xs) (hw : ∀ x ∈ ws, 0 ≤ x ∧ x ≤ sym - 1) (hn' : n' ≤ 1000000000000) :
    Calls Try.prog 127 #[.pointer (some ⟨b, 0, none⟩), .int .i64 sym, .slice A' n' c'] w fun e w' => e = .returned (.int .i64 (runF sym xs ws 0)) ∧ Qt w w' := by
  have HL := Lib.hid h.len
  have HL' := Lib.hid h'.len
  have H := Lib.hid h
  have H' := Lib.hid h'
  obtain ⟨hsy, hst, hlen, hall⟩ := hd
  have HN := Lib.hid (show (n : Int) = st * sym by rw [← hlen, HL.out])
  have HA := Lib.hid hall
  have HW := Lib.hid hw
  have hm := mul_bd hsy hst
  have hn : n ≤ 120 := by have := HN.out; omega
  clear h h' hlen hall hw hm
  go_enter Try.func127, Try.ntmps127
  go_wp2
  go_loopw [7, 8] (fun q i wr => ∃ (k : Nat) (now : Int), k ≤ n' ∧ i = .int .i64 k ∧ q = .int .i64 now ∧ 0 ≤ now ∧ now ≤ st - 1 ∧ Hid (runF sym xs ws 0 = runF sym xs (ws.drop k) now) ∧ Qt w wr) (fun _ i _ => n' - (intOf i).toNat)
  case atStart => exact ⟨0, 0, by omega, rfl, rfl, by omega, by omega, rfl, (by first | exact Qt.refl _ | exact ⟨_, rfl⟩ | exact Qt.drewN ⟨_, rfl⟩ _)⟩
  case round =>
    obtain ⟨k, now, hk, rfl, rfl, hn0, hn1, hr, hq⟩ := hrel
    obtain ⟨m, rfl⟩ := hq
    by_cases hlt : k < n'
    · obtain ⟨ad', y, rfl, hab', hy, hcy⟩ := H'.out.at_ hlt
      have hyb := HW.out y (List.mem_of_getElem? hy)
      have hbd := step_bd hsy hst ⟨hn0, hn1⟩ hyb
      rw [← HN.out] at hbd
      obtain ⟨j, hj⟩ := Int.eq_ofNat_of_zero_le hbd.2.2.1
      have hjn : j < n := by have := hbd.2.2.2; omega
      obtain ⟨ad, x, rfl, hab, hx, hcx⟩ := H.out.at_ hjn
      have hxb := HA.out x (List.mem_of_getElem? hx)
      have HF := Lib.hid (show runF sym xs ws 0 = runF sym xs (ws.drop (k + 1)) x by rw [hr.out, drop_at hy, runF, hj, nextOf_at hx])
      have hj0 : (0 : Int) ≤ (j : Int) := by omega
      have hj1 : (j : Int) < (n : Int) := by omega
      have hms : 0 ≤ now * sym ∧ now * sym ≤ 114 := ⟨hbd.1, hbd.2.1⟩
      clear hy hx hbd hr
      go_wp2
      go_quiet (fail)
      go_wp2
      go_roundw
      case rel => exact ⟨k + 1, x, by omega, by go_num, rfl, by omega, by omega, HF.out, (by first | exact Qt.refl _ | exact ⟨_, rfl⟩ | exact Qt.drewN ⟨_, rfl⟩ _)⟩
      case measure => simp [intOf]; omega
    · have HF := Lib.hid (show runF sym xs ws 0 = now by rw [hr.out, List.drop_eq_nil_of_le (by rw [HL'.out]; omega)]; rfl)
      go_wp2
      go_ret
      exact ⟨by rw [HF.out]; rfl, (by first | exact Qt.refl _ | exact ⟨_, rfl⟩ | exact Qt.drewN ⟨_, rfl⟩ _)⟩

set_option maxHeartbeats 1000000 in
theorem dfaRun_c (st sym : Int) (A A' : Option Addr) (n c n' c' : Nat) (xs ws : List Int) (w : World)
    (h : RdI w A n xs) (h' : RdI w A' n' ws) (hd : DfaOk st sym xs) (hw : ∀ x ∈ ws, 0 ≤ x ∧ x ≤ sym - 1) (hn' : n' ≤ 1000000000000) :
    Calls Try.prog 134 #[.agg #[.int .i64 st, .slice A n c], .int .i64 sym, .slice A' n' c'] w fun e w' => e = .returned (.int .i64 (runF sym xs ws 0)) ∧ Below w.heap.size w w' := by
  have HL := Lib.hid h.len
  have HL' := Lib.hid h'.len
  have H := Lib.hid h
  have H' := Lib.hid h'
  obtain ⟨hsy, hst, hlen, hall⟩ := hd
  have HN := Lib.hid (show (n : Int) = st * sym by rw [← hlen, HL.out])
  have HA := Lib.hid hall
  have HW := Lib.hid hw
  have hm := mul_bd hsy hst
  have hn : n ≤ 120 := by have := HN.out; omega
  clear h h' hlen hall hw hm
  go_enter Try.func134, Try.ntmps134
  go_wp2
  go_loopw [7, 12] (fun q i wr => ∃ (k : Nat) (now : Int), k ≤ n' ∧ i = .int .i64 k ∧ q = .int .i64 now ∧ 0 ≤ now ∧ now ≤ st - 1 ∧ Hid (runF sym xs ws 0 = runF sym xs (ws.drop k) now) ∧ Below w.heap.size w wr ∧ wr.cell? ⟨w.heap.size, 0, none⟩ = some (.int .i64 st) ∧ wr.cell? ⟨w.heap.size, 1, none⟩ = some (.slice A n c)) (fun _ i _ => n' - (intOf i).toNat)
  case atStart => exact ⟨0, 0, by omega, rfl, rfl, by omega, by omega, rfl, below_size.alloc (Nat.le_refl _) _, new_cell _ _ _ 0, new_cell _ _ _ 1⟩
  case round =>
    obtain ⟨k, now, hk, rfl, rfl, hn0, hn1, hr, hb, c0, c1⟩ := hrel
    by_cases hlt : k < n'
    · obtain ⟨ad', y, rfl, hab', hy, hcy⟩ := (H'.out.below hb).at_ hlt
      have hyb := HW.out y (List.mem_of_getElem? hy)
      have hbd := step_bd hsy hst ⟨hn0, hn1⟩ hyb
      rw [← HN.out] at hbd
      obtain ⟨j, hj⟩ := Int.eq_ofNat_of_zero_le hbd.2.2.1
      have hjn : j < n := by have := hbd.2.2.2; omega
      obtain ⟨ad, x, e, hab, hx, hcx⟩ := H.out.at_ hjn
      have hxb := HA.out x (List.mem_of_getElem? hx)
      have HF := Lib.hid (show runF sym xs ws 0 = runF sym xs (ws.drop (k + 1)) (nextOf xs (now * sym + y)) by rw [hr.out, drop_at hy, runF])
      have HX := Lib.hid (show nextOf xs (now * sym + y) = x by rw [hj, nextOf_at hx])
      have HB := Lib.hid hb
      have HD := Lib.hid hbd
      clear hy hx hbd hr hb hj e hcx
      go_wp2_with fail
      refine (dfaTo_c _ _ _ _ xs _ _ _ _ (H.out.below HB.out) HD.out.1 (by have := HD.out.2.1; omega) HD.out.2.2.1 HD.out.2.2.2 (by omega)).mono ?_
      rintro e w1 ⟨rfl, hb1⟩
      have c0' := keepc hb1 c0
      have c1' := keepc hb1 c1
      clear c0 c1
      go_wp2
      go_roundw
      case rel => exact ⟨k + 1, _, by omega, by go_num, rfl, by rw [HX.out]; omega, by rw [HX.out]; omega, HF.out, below_chain HB.out HB.out.size hb1, c0', c1'⟩
      case measure => simp [intOf]; omega
    · have HF := Lib.hid (show runF sym xs ws 0 = now by rw [hr.out, List.drop_eq_nil_of_le (by rw [HL'.out]; omega)]; rfl)
      go_wp2
      go_ret
      exact ⟨by rw [HF.out]; rfl, hb⟩

def runR (st sym : Int) (xs ws : List Int) : Int × Int :=
  if dfaB st sym xs = true then (if decide (400 < ws.length) || !allB 0 (sym - 1) ws then (0, 2) else (runF sym xs ws 0, 0)) else (0, 1)


end Go.Proofs.Ytfahdgmlhinabaa
