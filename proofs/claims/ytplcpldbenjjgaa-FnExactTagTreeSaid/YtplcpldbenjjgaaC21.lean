/-
  Contracts of chapter 21 (trees): the ways, counted with a memory.
-/
import Derived.Test.YtplcpldbenjjgaaProg
import Derived.Test.YtplcpldbenjjgaaPlain21
import Derived.Test.YtplcpldbenjjgaaMap
import Derived.Test.YtplcpldbenjjgaaApp
import Derived.Test.YtplcpldbenjjgaaC01
namespace Go.Proofs.Ytplcpldbenjjgaa
open Go.RowKit

theorem endings_key : KeyOk Try.prog 181 pairKey := by
  refine keyOk_pair Try.underlying181 (fun b p w => by cases b <;> kernel_rfl) ?_
  rintro ⟨p, q⟩ ⟨p', q'⟩ w
  refine ⟨p == p' && q == q', ?_, by simp⟩
  have pt0 : ∀ p q : Int, (part 2 #[.int .i64 p, .int .i64 q] 0).run Try.prog w = .ok (.int .i64 p) w := fun p q => by kernel_rfl
  have pt1 : ∀ p q : Int, (part 2 #[.int .i64 p, .int .i64 q] 1).run Try.prog w = .ok (.int .i64 q) w := fun p q => by kernel_rfl
  have h := run_equalIn_struct (P := Try.prog) w 9999 181 #[.int .i64 p, .int .i64 q] #[.int .i64 p', .int .i64 q'] (by kernel_rfl) (by kernel_rfl)
  simp only [Program.fieldsOf, Try.underlying181] at h
  refine h.trans ?_
  simp [Op.eqFields, pt0, pt1, run_equalIn_int w _ _ _ _ _ _ Try.underlying2]
  by_cases hp : p = p' <;> by_cases hq : q = q' <;> simp [hp, hq]

/-- the memory, as the program keeps it -/
def Memo (w : World) (g : Nat) (m : List ((Int × Int) × Int)) : Prop := MapAt w g pairKey i64 m ∧ MemoOk m

set_option maxHeartbeats 2000000 in
set_option maxRecDepth 100000 in
theorem count_c (f : Nat) : ∀ (n k : Nat) (g : Nat) (m : List ((Int × Int) × Int)) (w : World), n ≤ f → n ≤ 1000 → k ≤ 1000000 → Memo w g m →
    Calls Try.prog 123 #[.map (some g), .int .i64 n, .int .i64 k] w fun e w' => e = .returned (.int .i64 (W n k)) ∧ (∃ m', Memo w' g m' ∧ ∀ p ∈ m', p ∈ m ∨ p.1.1 ≤ n) ∧ KeepR g (g + 1) w w' := by
  induction f with
  | zero =>
    intro n k g m w hn _ hk hm
    obtain rfl : n = 0 := by omega
    by_cases hk0 : k = 0
    · subst hk0
      have HW := Lib.hid W_zero_zero
      go_enter Try.func123, Try.ntmps123
      go_wp2_with fail
      go_ret
      exact ⟨by rw [HW.out]; rfl, ⟨m, hm, fun p hp => .inl hp⟩, KeepR.refl _ _ _⟩
    · have h0 : ((k : Int) == 0) = false := by simp; omega
      have HW := Lib.hid (show W 0 k = 0 from W_big (by omega))
      go_enter Try.func123, Try.ntmps123
      go_wp2_with fail
      go_ret
      exact ⟨by rw [HW.out]; rfl, ⟨m, hm, fun p hp => .inl hp⟩, KeepR.refl _ _ _⟩
  | succ f ih =>
    intro n k g m w hn hn2 hk hm
    by_cases hk0 : k = 0
    · subst hk0
      by_cases hn0 : n = 0
      · subst hn0
        have HW := Lib.hid W_zero_zero
        go_enter Try.func123, Try.ntmps123
        go_wp2_with fail
        go_ret
        exact ⟨by rw [HW.out]; rfl, ⟨m, hm, fun p hp => .inl hp⟩, KeepR.refl _ _ _⟩
      · have h0 : ((n : Int) == 0) = false := by simp; omega
        have HW := Lib.hid (show W n 0 = 0 by obtain ⟨j, rfl⟩ : ∃ j, n = j + 1 := ⟨n - 1, by omega⟩; exact W_succ_zero j)
        go_enter Try.func123, Try.ntmps123
        go_wp2_with fail
        go_ret
        exact ⟨by rw [HW.out]; rfl, ⟨m, hm, fun p hp => .inl hp⟩, KeepR.refl _ _ _⟩
    have h0 : ((k : Int) == 0) = false := by simp; omega
    by_cases hnk : n < k
    · have HW := Lib.hid (show W n k = 0 from W_big hnk)
      have h1 : ((n : Int) == 0 && (k : Int) == 0) = false := by simp [h0]
      have hnk' : decide ((n : Int) < k) = true := by simp; omega
      by_cases hn0 : n = 0
      · subst hn0
        go_enter Try.func123, Try.ntmps123
        go_wp2_with fail
        go_ret
        exact ⟨by rw [HW.out]; rfl, ⟨m, hm, fun p hp => .inl hp⟩, KeepR.refl _ _ _⟩
      · have h2 : ((n : Int) == 0) = false := by simp; omega
        go_enter Try.func123, Try.ntmps123
        go_wp2_with fail
        go_ret
        exact ⟨by rw [HW.out]; rfl, ⟨m, hm, fun p hp => .inl hp⟩, KeepR.refl _ _ _⟩
    have hnk' : decide ((n : Int) < k) = false := by simp; omega
    have hz : ∀ w, (zeroValue 2).run Try.prog w = .ok (i64 0) w := fun w => by kernel_rfl
    have hml := (hm.1.alloc (.cells #[i64 n, i64 k] 181))
    by_cases hin : ((n : Int), (k : Int)) ∈ m.map (·.1)
    · have hl := hml.look_some (P := Try.prog) (T := 152) endings_key Try.underlying152 hin (v := (W n k : Int)) (fun v hv => hm.2.at_ hv)
      simp only [pairKey] at hl
      have HM := Lib.hid hm; clear hm hml hin
      go_enter Try.func123, Try.ntmps123
      go_wp2_with fail
      go_ret
      exact ⟨rfl, ⟨m, ⟨HM.out.1.alloc _, HM.out.2⟩, fun p hp => .inl hp⟩, KeepR.of_below (below_size.alloc (Nat.le_refl _) _)⟩
    · have hl := hml.look_none (P := Try.prog) (T := 152) endings_key Try.underlying152 (hz _) hin
      simp only [pairKey] at hl
      have HM := Lib.hid hm; have HI := Lib.hid hin
      have hgl := hm.1.lt
      clear hm hml hin hz
      go_enter Try.func123, Try.ntmps123
      go_wp2_with fail
      have e1 : ((n - 1 : Nat) : Int) = (n : Int) - 1 := by omega
      have e2 : ((k - 1 : Nat) : Int) = (k : Int) - 1 := by omega
      have e3 : ((k + 1 : Nat) : Int) = (k : Int) + 1 := by omega
      rw [← e1, ← e2]
      refine (ih (n - 1) (k - 1) g m _ (by omega) (by omega) (by omega) ⟨HM.out.1.alloc _, HM.out.2⟩).mono ?_
      rintro e w1 ⟨rfl, ⟨m1, hm1, hs1⟩, hk1⟩
      clear hl
      rw [e1, e2]
      have hkey0 : w1.cell? ⟨w.heap.size, 0, none⟩ = some (i64 n) := hk1.cell (by simp; omega) (by simp)
      have hkey1 : w1.cell? ⟨w.heap.size, 1, none⟩ = some (i64 k) := hk1.cell (by simp; omega) (by simp)
      have hlt1 := World.block_lt_of_cell? w1 _ hkey0
      have K1 := Lib.hid hk1.up1
      clear hk1
      go_wp2_with fail
      rw [← e1, ← e3]
      refine (ih (n - 1) (k + 1) g m1 _ (by omega) (by omega) (by omega) hm1).mono ?_
      rintro e w2 ⟨rfl, ⟨m2, hm2, hs2⟩, hk2⟩
      rw [e1]
      have hkey0' : w2.cell? ⟨w.heap.size, 0, none⟩ = some (i64 n) := hk2.cell (by simp; omega) hkey0
      have hkey1' : w2.cell? ⟨w.heap.size, 1, none⟩ = some (i64 k) := hk2.cell (by simp; omega) hkey1
      have K2 := Lib.hid (K1.out.trans hk2)
      have hnot : ((n : Int), (k : Int)) ∉ m2.map (·.1) := by
        intro hx
        obtain ⟨p, hp, hpe⟩ := List.mem_map.1 hx
        have h1 : p.1.1 = n := by rw [hpe]
        rcases hs2 p hp with h | h
        · rcases hs1 p h with h | h
          · exact HI.out (hpe ▸ List.mem_map_of_mem h)
          · omega
        · omega
      have HW := Lib.hid (W_rec (n := n) (k := k) (by omega) (by omega))
      obtain ⟨w3, hrun, hm3, hk3, _⟩ := hm2.1.store (P := Try.prog) (T := 152) endings_key Try.underlying152 hnot (W n k : Int)
      simp only [pairKey] at hrun
      have hb1 := W_bd (n - 1) (k - 1)
      have hb2 := W_bd (n - 1) (k + 1)
      have HW2 := Lib.hid (show (W n k : Int) = if ((W (n - 1) (k - 1) : Int) + W (n - 1) (k + 1)) < 1000000000001 then ((W (n - 1) (k - 1) : Int) + W (n - 1) (k + 1)) else 1000000000001 by rw [HW.out]; split <;> omega)
      rw [HW2.out] at hrun
      have HS := Lib.hid (show ∀ p ∈ m2 ++ [(((n : Int), (k : Int)), (W n k : Int))], p ∈ m ∨ p.1.1 ≤ n by
        intro p hp
        rcases List.mem_append.1 hp with hp | hp
        · rcases hs2 p hp with h | h
          · rcases hs1 p h with h | h
            · exact .inl h
            · exact .inr (by omega)
          · exact .inr (by omega)
        · rw [List.mem_singleton] at hp; subst hp; exact .inr (Int.le_refl _))
      have H3 := Lib.hid hm3
      have HM2 := Lib.hid hm2
      have K3 := Lib.hid (K2.out.trans hk3)
      clear hs1 hs2 hm1 hm2 hk2 hkey0 hkey1 hnot hm3 hk3 ih e1 e2 e3 HW
      generalize (W (n - 1) (k - 1) : Int) = a at *
      generalize (W (n - 1) (k + 1) : Int) = b at *
      obtain ⟨hb1, hb1'⟩ := hb1
      obtain ⟨hb2, hb2'⟩ := hb2
      by_cases hab : a + b < 1000000000001
      · rw [if_pos hab] at hrun
        have HW3 := Lib.hid (HW2.out.trans (if_pos hab))
        clear HW2
        go_wp2_with fail
        go_ret
        exact ⟨by rw [HW3.out]; rfl, ⟨_, ⟨H3.out, HM2.out.2.add n k⟩, HS.out⟩, K3.out⟩
      · rw [if_neg hab] at hrun
        have HW3 := Lib.hid (HW2.out.trans (if_neg hab))
        clear HW2
        go_wp2_with fail
        go_ret
        exact ⟨by rw [HW3.out]; rfl, ⟨_, ⟨H3.out, HM2.out.2.add n k⟩, HS.out⟩, K3.out⟩

end Go.Proofs.Ytplcpldbenjjgaa
