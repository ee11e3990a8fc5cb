/-
  Texts of automata, first part: the plain law; the reference's side (l28Text, DfaText).
-/
import Derived.Test.YtdendllginlidaaDoorCTc
import Derived.Test.YtdendllginlidaaDoorC28
namespace Go.Proofs.YtdendllginlidaaDoor
open Go.RowKit

/-- the reference's text of the first k targets -/
def daSep (s k : Nat) : List UInt8 := if k = 0 then [] else if k % s = 0 then [59] else [44]
def daPre (s : Nat) (xs : List Int) : Nat → List UInt8
  | 0 => []
  | k + 1 => daPre s xs k ++ daSep s k ++ Lib.itoa (xs.getD k 0)
/-- one state's targets -/
def daRow (s : Nat) (xs : List Int) (r : Nat) : List Int := (xs.drop (r * s)).take s
def daRowT (s : Nat) (xs : List Int) (r : Nat) : List UInt8 := Lib.join ((daRow s xs r).map Lib.itoa) [44]
/-- the program's text of the first r states -/
def daJoin (s : Nat) (xs : List Int) (r : Nat) : List UInt8 := Lib.join ((List.range r).map (daRowT s xs)) [59]
theorem daJoin_succ (s : Nat) (xs : List Int) (r : Nat) : daJoin s xs (r + 1) = (if 0 < r then daJoin s xs r ++ [59] else []) ++ daRowT s xs r := by
  have h := join_at [59] ((List.range (r + 1)).map (daRowT s xs)) r (daRowT s xs r) (by simp)
  rw [List.take_of_length_le (by simp)] at h
  rw [daJoin, h, ← List.map_take, List.take_range, Nat.min_eq_left (by omega)]
  rfl
theorem daRow_at {s : Nat} {xs : List Int} {r j : Nat} (hj : j < s) (h : r * s + j < xs.length) : (daRow s xs r)[j]? = some (xs.getD (r * s + j) 0) := by
  rw [daRow, List.getElem?_take, if_pos hj, List.getElem?_drop, List.getD_eq_getElem?_getD, List.getElem?_eq_getElem h]; rfl
theorem daPre_row {s : Nat} {xs : List Int} (hs : 0 < s) (r : Nat) (hr : daPre s xs (r * s) = daJoin s xs r) : ∀ j, j < s → r * s + j < xs.length →
    daPre s xs (r * s + (j + 1)) = (if 0 < r then daJoin s xs r ++ [59] else []) ++ Lib.join (((daRow s xs r).map Lib.itoa).take (j + 1)) [44]
  | 0, h1, h2 => by
    show daPre s xs (r * s) ++ daSep s (r * s) ++ Lib.itoa (xs.getD (r * s) 0) = _
    have hj := join_at [44] ((daRow s xs r).map Lib.itoa) 0 (Lib.itoa (xs.getD (r * s) 0)) (by rw [List.getElem?_map, daRow_at h1 h2]; rfl)
    rw [if_neg (show ¬ 0 < 0 by omega), List.nil_append] at hj
    rw [hj, hr]
    by_cases h0 : r = 0
    · subst h0
      rw [if_neg (show ¬ 0 < 0 by omega), daSep, if_pos (show 0 * s = 0 by omega)]
      simp [daJoin, Lib.join_nil]
    · have h3 : r * s ≠ 0 := Nat.mul_ne_zero h0 (by omega)
      rw [if_pos (show 0 < r by omega), daSep, if_neg h3, if_pos (Nat.mul_mod_left r s)]
  | j + 1, h1, h2 => by
    have ih := daPre_row hs r hr j (by omega) (by omega)
    show daPre s xs (r * s + (j + 1)) ++ daSep s (r * s + (j + 1)) ++ Lib.itoa (xs.getD (r * s + (j + 1)) 0) = _
    have hm : (r * s + (j + 1)) % s = j + 1 := by rw [Nat.mul_comm, Nat.mul_add_mod, Nat.mod_eq_of_lt h1]
    have hj := join_at [44] ((daRow s xs r).map Lib.itoa) (j + 1) (Lib.itoa (xs.getD (r * s + (j + 1)) 0)) (by rw [List.getElem?_map, daRow_at h1 h2]; rfl)
    rw [if_pos (show 0 < j + 1 by omega)] at hj
    rw [hj, ih, daSep, if_neg (show ¬ r * s + (j + 1) = 0 by omega), hm, if_neg (show ¬ j + 1 = 0 by omega)]
    simp only [List.append_assoc]
theorem daPre_join {s : Nat} {xs : List Int} (hs : 0 < s) : ∀ r, r * s ≤ xs.length → daPre s xs (r * s) = daJoin s xs r
  | 0, _ => by rw [Nat.zero_mul]; rfl
  | r + 1, h => by
    have h1 : r * s + s ≤ xs.length := by rw [Nat.succ_mul] at h; exact h
    have ih := daPre_join hs r (Nat.le_trans (Nat.le_add_right _ s) h1)
    have h2 := daPre_row hs r ih (s - 1) (by omega) (by omega)
    rw [show s - 1 + 1 = s by omega] at h2
    rw [show (r + 1) * s = r * s + s from Nat.succ_mul r s, h2, daJoin_succ, List.take_of_length_le (by rw [List.length_map, daRow, List.length_take]; omega)]
    rfl
theorem daPre_len {s : Nat} {xs : List Int} (h : i64s xs) : ∀ k, k ≤ xs.length → (daPre s xs k).length ≤ 22 * k
  | 0, _ => by simp [daPre]
  | k + 1, hk => by
    have ih := daPre_len (s := s) h k (by omega)
    have h1 : (Lib.itoa (xs.getD k 0)).length ≤ 21 := by
      rw [List.getD_eq_getElem?_getD, List.getElem?_eq_getElem (by omega)]
      exact itoa_len (h _ (List.getElem_mem _))
    have h2 : (daSep s k).length ≤ 1 := by unfold daSep; split <;> (try split) <;> simp
    simp only [daPre, List.length_append]
    omega
/-- what DfaText gives -/
def daR (st sym : Int) (xs : List Int) : List UInt8 := if dfaB st sym xs = true then daPre sym.toNat xs xs.length else []
set_option maxHeartbeats 2000000 in
set_option maxRecDepth 100000 in
theorem l28Text_c (b : Nat) (s : Nat) (A : Option Addr) (n c : Nat) (xs : List Int) (w : World) (h1 : w.cell? ⟨b, 1, none⟩ = some (.slice A n c)) (h : RdI w A n xs) (hs : 2 ≤ s ∧ s ≤ 6) (hn : n ≤ 1000) (hx : i64s xs) :
    Calls Tryd.prog 12 #[.pointer (some ⟨b, 0, none⟩), .int .i64 s] w fun e w' => e = .returned (.string (bs (daPre s xs n))) ∧ Below w.heap.size w w' := by
  have H1 := Lib.hid h1
  have HL := Lib.hid h.len
  have H := Lib.hid h; clear h
  have HX := Lib.hid hx; clear hx
  go_enter Tryd.func12, Tryd.ntmps12
  go_wp2_with fail
  go_loopw [5, 6] (fun ov iv wr => ∃ k : Nat, iv = .int .i64 k ∧ ov = .string (bs (daPre s xs k)) ∧ k ≤ n ∧ Below w.heap.size w wr) (fun _ iv _ => n - (intOf iv).toNat)
  case atStart => exact ⟨0, rfl, rfl, by omega, below_size⟩
  case round =>
    clear h1
    obtain ⟨k, rfl, rfl, hk, hb⟩ := hrel
    have HB := Lib.hid hb
    have q1 := keepc hb H1.out
    by_cases hlt : k < n
    · obtain ⟨ad, x, rfl, hab, hx, hcx⟩ := (H.out.below hb).at_ hlt
      have hxb := HX.out x (List.mem_of_getElem? hx)
      have hs1 : (bs (daPre s xs k)).size ≤ 22000 := by rw [bs_size]; have := daPre_len (s := s) HX.out k (by rw [HL.out]; exact hk); omega
      have hs2 : (bs (Lib.itoa x)).size ≤ 21 := by rw [bs_size]; exact itoa_len hxb
      have HE := Lib.hid (show bs (daPre s xs k) ++ bs (daSep s k) ++ bs (Lib.itoa x) = bs (daPre s xs (k + 1)) by rw [daPre, List.getD_eq_getElem?_getD, hx, bs_add, bs_add]; rfl)
      obtain ⟨z, hz⟩ : ∃ z, k % s = z := ⟨_, rfl⟩
      have v1 : (k : Int).tmod (s : Int) = (z : Int) := by rw [Int.tmod_eq_emod_of_nonneg (by omega), ← hz]; rfl
      obtain ⟨P, hP⟩ : ∃ P, bs (daPre s xs k) = P := ⟨_, rfl⟩
      rw [hP] at HE hs1 ⊢
      clear hx hb
      by_cases hk0 : k = 0
      · have HS := Lib.hid (show P ++ bs (Lib.itoa x) = bs (daPre s xs (k + 1)) by rw [← HE.out, daSep, if_pos hk0, ← hP]; simp [bs_add])
        have g1 : decide (0 < k) = false := by simp [hk0]
        clear hP hk0
        go_wp2_with (go_at_call 24; refine (l01Dec_c x _ hxb.1 hxb.2).mono ?_; rintro e w1 ⟨rfl, hb1⟩)
        have B1 := Lib.hid (HB.out.trans (hb1.mono HB.out.size)); clear hb1
        rw [HS.out]
        go_roundw
        case rel => exact ⟨k + 1, by go_num, rfl, by omega, B1.out⟩
        case measure => simp [intOf]; omega
      · have g1 : decide (0 < k) = true := by simp; omega
        by_cases hz0 : z = 0
        · have HS := Lib.hid (show P ++ ⟨#[59]⟩ ++ bs (Lib.itoa x) = bs (daPre s xs (k + 1)) by rw [← HE.out, daSep, if_neg hk0, if_pos (hz.trans hz0)]; rfl)
          have g2 : ((z : Int) == 0) = true := by simp [hz0]
          clear hP hk0
          go_wp2_with (go_at_call 24; refine (l01Dec_c x _ hxb.1 hxb.2).mono ?_; rintro e w1 ⟨rfl, hb1⟩)
          have B1 := Lib.hid (HB.out.trans (hb1.mono HB.out.size)); clear hb1
          rw [HS.out]
          go_roundw
          case rel => exact ⟨k + 1, by go_num, rfl, by omega, B1.out⟩
          case measure => simp [intOf]; omega
        · have HS := Lib.hid (show P ++ ⟨#[44]⟩ ++ bs (Lib.itoa x) = bs (daPre s xs (k + 1)) by rw [← HE.out, daSep, if_neg hk0, if_neg (fun h => hz0 (hz ▸ h))]; rfl)
          have g2 : ((z : Int) == 0) = false := by simp; omega
          clear hP hk0 hz0
          go_wp2_with (go_at_call 24; refine (l01Dec_c x _ hxb.1 hxb.2).mono ?_; rintro e w1 ⟨rfl, hb1⟩)
          have B1 := Lib.hid (HB.out.trans (hb1.mono HB.out.size)); clear hb1
          rw [HS.out]
          go_roundw
          case rel => exact ⟨k + 1, by go_num, rfl, by omega, B1.out⟩
          case measure => simp [intOf]; omega
    · obtain rfl : k = n := by omega
      clear hb
      go_wp2_with fail
      go_ret
      exact ⟨rfl, HB.out⟩
end Go.Proofs.YtdendllginlidaaDoor
