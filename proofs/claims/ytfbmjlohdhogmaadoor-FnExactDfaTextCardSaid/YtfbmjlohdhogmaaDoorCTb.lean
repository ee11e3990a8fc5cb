/-
  Texts, second part: lists of numerals in the reference (l01List, l06Digits, l03Text, l05Digits).
-/
import Derived.Test.YtfbmjlohdhogmaaDoorCTa
import Derived.Lib.Join
namespace Go.Proofs.YtfbmjlohdhogmaaDoor
open Go.RowKit

def i64s (xs : List Int) : Prop := ∀ x ∈ xs, -9223372036854775808 ≤ x ∧ x ≤ 9223372036854775807
theorem itoa_len {x : Int} (h : -9223372036854775808 ≤ x ∧ x ≤ 9223372036854775807) : (Lib.itoa x).length ≤ 21 := Lib.itoa_length_le x h.1 h.2
theorem join_at (sep : List UInt8) (L : List (List UInt8)) (k : Nat) (y : List UInt8) (h : L[k]? = some y) : Lib.join (L.take (k + 1)) sep = (if 0 < k then Lib.join (L.take k) sep ++ sep else []) ++ y := by
  cases L with
  | nil => simp at h
  | cons x r =>
    cases k with
    | zero => simp at h; subst h; simp [Lib.join_one]
    | succ k =>
      simp at h
      rw [if_pos (by omega), List.take_succ_cons, List.take_succ_cons, Lib.join_cons, Lib.join_cons, Lib.joinTail_take_succ sep r k y h]
      simp
theorem lens_le {b : Nat} : ∀ {L : List (List UInt8)}, (∀ y ∈ L, y.length ≤ b) → Lib.lens L ≤ b * L.length
  | [], _ => by simp [Lib.lens]
  | y :: r, h => by
    have h1 := h y (by simp)
    have h2 := lens_le (L := r) (fun z hz => h z (by simp [hz]))
    simp only [Lib.lens, List.map_cons, List.sum_cons, List.length_cons, Nat.mul_succ] at h2 ⊢
    omega
theorem join_len {b : Nat} (sep : List UInt8) {L : List (List UInt8)} (h : ∀ y ∈ L, y.length ≤ b) : (Lib.join L sep).length ≤ (sep.length + b) * L.length := by
  cases L with
  | nil => simp [Lib.join_nil]
  | cons x r =>
    rw [Lib.join_length]
    have h1 := lens_le h
    rw [Nat.add_mul]
    have h2 : sep.length * r.length ≤ sep.length * (x :: r).length := Nat.mul_le_mul_left _ (by simp)
    omega
/-- a list's text -/
def listT (xs : List Int) : List UInt8 := if xs = [] then [45] else Lib.join (xs.map Lib.itoa) [44]
theorem csv_len {sep : UInt8} {xs : List Int} (h : i64s xs) (k : Nat) : (Lib.join ((xs.map Lib.itoa).take k) [sep]).length ≤ 22 * k := by
  have h1 := join_len [sep] (L := (xs.map Lib.itoa).take k) (b := 21) (fun y hy => by
    obtain ⟨x, hx, rfl⟩ := List.mem_map.1 (List.mem_of_mem_take hy)
    exact itoa_len (h x hx))
  have h2 : ((xs.map Lib.itoa).take k).length ≤ k := by rw [List.length_take]; omega
  have h3 := Nat.mul_le_mul_left ([sep].length + 21) h2
  simp only [List.length_cons, List.length_nil] at h1 h3
  omega
set_option maxHeartbeats 2000000 in
set_option maxRecDepth 100000 in
theorem l01List_c (A : Option Addr) (n c : Nat) (xs : List Int) (w : World) (h : RdI w A n xs) (hn : n ≤ 10000000) (hx : i64s xs) :
    Calls Tryd.prog 91 #[.slice A n c] w fun e w' => e = .returned (.string (bs (listT xs))) ∧ Below w.heap.size w w' := by
  have HX := Lib.hid hx; clear hx
  have HL := Lib.hid h.len
  have H := Lib.hid h; clear h
  by_cases h0 : n = 0
  · subst h0
    have HR := Lib.hid (show listT xs = [45] by rw [listT, if_pos (List.length_eq_zero_iff.1 HL.out)])
    go_enter Tryd.func91, Tryd.ntmps91
    go_wp2_with fail
    go_ret
    exact ⟨by rw [HR.out]; rfl, below_size⟩
  have g0 : ((n : Int) == 0) = false := by simpa using h0
  have HR := Lib.hid (show listT xs = Lib.join ((xs.map Lib.itoa).take n) [44] by rw [listT, if_neg (fun h => h0 (by rw [← HL.out, h]; rfl)), List.take_of_length_le (by simp [HL.out])])
  clear h0
  go_enter Tryd.func91, Tryd.ntmps91
  go_wp2_with fail
  go_loopw [3, 4] (fun ov iv wr => ∃ (k : Nat), iv = .int .i64 k ∧ ov = .string (bs (Lib.join ((xs.map Lib.itoa).take k) [44])) ∧ k ≤ n ∧ Below w.heap.size w wr) (fun _ iv _ => n - (intOf iv).toNat)
  case atStart => exact ⟨0, rfl, rfl, by omega, below_size⟩
  case round =>
    obtain ⟨k, rfl, rfl, hk, hb⟩ := hrel
    have HB := Lib.hid hb
    by_cases hlt : k < n
    · obtain ⟨ad, x, rfl, hab, hx, hcx⟩ := (H.out.below hb).at_ hlt
      have hxb := HX.out x (List.mem_of_getElem? hx)
      have HJ := Lib.hid (join_at [44] (xs.map Lib.itoa) k (Lib.itoa x) (by rw [List.getElem?_map, hx]; rfl))
      have HS := Lib.hid (csv_len (sep := 44) HX.out k)
      obtain ⟨J, hJ⟩ : ∃ J, Lib.join ((xs.map Lib.itoa).take k) [44] = J := ⟨_, rfl⟩
      have hs1 : (bs J).size ≤ 220000000 := by rw [bs_size, ← hJ]; have := HS.out; omega
      have hs2 : (bs (Lib.itoa x)).size ≤ 21 := by rw [bs_size]; exact itoa_len hxb
      rw [hJ] at HJ ⊢
      have HJ1 := Lib.hid (show ¬ 0 < k → J = [] from fun h => by rw [← hJ, show k = 0 by omega]; rfl)
      clear hx hb HS hJ
      by_cases hk0 : 0 < k
      · have HE := Lib.hid (show bs J ++ ⟨#[44]⟩ ++ bs (Lib.itoa x) = bs (Lib.join ((xs.map Lib.itoa).take (k + 1)) [44]) by rw [HJ.out, if_pos hk0, show (⟨#[44]⟩ : ByteArray) = bs [44] from rfl, bs_add, bs_add])
        go_wp2_with (go_at_call 62; refine (l01Dec_c x _ hxb.1 hxb.2).mono ?_; rintro e w1 ⟨rfl, hb1⟩)
        have B1 := Lib.hid (HB.out.trans (hb1.mono HB.out.size)); clear hb1
        rw [HE.out]
        go_roundw
        case rel => exact ⟨k + 1, by go_num, rfl, by omega, B1.out⟩
        case measure => simp [intOf]; omega
      · have HE := Lib.hid (show bs J ++ bs (Lib.itoa x) = bs (Lib.join ((xs.map Lib.itoa).take (k + 1)) [44]) by rw [HJ.out, if_neg hk0, bs_add, HJ1.out hk0])
        go_wp2_with (go_at_call 62; refine (l01Dec_c x _ hxb.1 hxb.2).mono ?_; rintro e w1 ⟨rfl, hb1⟩)
        have B1 := Lib.hid (HB.out.trans (hb1.mono HB.out.size)); clear hb1
        rw [HE.out]
        go_roundw
        case rel => exact ⟨k + 1, by go_num, rfl, by omega, B1.out⟩
        case measure => simp [intOf]; omega
    · obtain rfl : k = n := by omega
      clear hb
      go_wp2_with fail
      go_ret
      exact ⟨by rw [HR.out]; rfl, HB.out⟩
/-- a list of digits as a text -/
def digT (xs : List Int) : List UInt8 := xs.map fun x => UInt8.ofNat (48 + x.toNat)
def wordT (xs : List Int) : List UInt8 := if xs = [] then [45] else digT xs
def dgs (xs : List Int) : Prop := ∀ x ∈ xs, 0 ≤ x ∧ x ≤ 9
theorem itoa_dig {x : Int} (h : 0 ≤ x ∧ x ≤ 9) : Lib.itoa x = [UInt8.ofNat (48 + x.toNat)] := by
  rw [Lib.itoa, if_neg (by omega), Lib.decDigits, dif_pos (by omega)]
theorem digT_at {xs : List Int} {k : Nat} {x : Int} (h : xs[k]? = some x) : digT (xs.take (k + 1)) = digT (xs.take k) ++ [UInt8.ofNat (48 + x.toNat)] := by
  rw [List.take_add_one, h]; simp [digT]
theorem digT_len (xs : List Int) : (digT xs).length = xs.length := by simp [digT]
theorem digT_text {xs : List Int} (h : dgs xs) : strOfNums (xs.map (48 + ·)) = bs (digT xs) := by
  unfold strOfNums bs digT
  rw [List.map_map]
  congr 2
  apply List.map_congr_left
  intro x hx
  have h1 := h x hx
  simp only [Function.comp]
  congr 1
  omega
set_option maxHeartbeats 2000000 in
set_option maxRecDepth 100000 in
theorem l06Digits_c (A : Option Addr) (n c : Nat) (xs : List Int) (w : World) (h : RdI w A n xs) (hn : n ≤ 10000000) (hx : dgs xs) :
    Calls Tryd.prog 84 #[.slice A n c] w fun e w' => e = .returned (.string (bs (digT xs))) ∧ Below w.heap.size w w' := by
  have HX := Lib.hid hx; clear hx
  have HL := Lib.hid h.len
  have H := Lib.hid h; clear h
  go_enter Tryd.func84, Tryd.ntmps84
  go_wp2_with fail
  go_loopw [3, 4] (fun ov iv wr => ∃ (k : Nat), iv = .int .i64 k ∧ ov = .string (bs (digT (xs.take k))) ∧ k ≤ n ∧ Below w.heap.size w wr) (fun _ iv _ => n - (intOf iv).toNat)
  case atStart => exact ⟨0, rfl, rfl, by omega, below_size⟩
  case round =>
    obtain ⟨k, rfl, rfl, hk, hb⟩ := hrel
    have HB := Lib.hid hb
    by_cases hlt : k < n
    · obtain ⟨ad, x, rfl, hab, hx, hcx⟩ := (H.out.below hb).at_ hlt
      have hxb := HX.out x (List.mem_of_getElem? hx)
      have HE := Lib.hid (show bs (digT (xs.take k)) ++ bs (Lib.itoa x) = bs (digT (xs.take (k + 1))) by rw [digT_at hx, bs_add, itoa_dig hxb])
      have hs1 : (bs (digT (xs.take k))).size ≤ 10000000 := by rw [bs_size, digT_len, List.length_take]; omega
      have hs2 : (bs (Lib.itoa x)).size ≤ 21 := by rw [bs_size]; exact itoa_len (by omega)
      clear hx hb
      go_wp2_with (go_at_call 62; refine (l01Dec_c x _ (by omega) (by omega)).mono ?_; rintro e w1 ⟨rfl, hb1⟩)
      have B1 := Lib.hid (HB.out.trans (hb1.mono HB.out.size)); clear hb1
      rw [HE.out]
      go_roundw
      case rel => exact ⟨k + 1, by go_num, rfl, by omega, B1.out⟩
      case measure => simp [intOf]; omega
    · obtain rfl : k = n := by omega
      have HR := Lib.hid (show xs.take k = xs from List.take_of_length_le (by rw [HL.out]; exact Nat.le_refl _))
      clear hb
      go_wp2_with fail
      go_ret
      exact ⟨by rw [HR.out]; rfl, HB.out⟩
set_option maxHeartbeats 2000000 in
set_option maxRecDepth 100000 in
theorem l03Text_c (A : Option Addr) (n c : Nat) (xs : List Int) (w : World) (h : RdI w A n xs) (hn : n ≤ 10000000) (hx : dgs xs) :
    Calls Tryd.prog 92 #[.slice A n c] w fun e w' => e = .returned (.string (bs (wordT xs))) ∧ Below w.heap.size w w' := by
  have HX := Lib.hid hx; clear hx
  have HL := Lib.hid h.len
  have H := Lib.hid h; clear h
  by_cases h0 : n = 0
  · subst h0
    have HR := Lib.hid (show wordT xs = [45] by rw [wordT, if_pos (List.length_eq_zero_iff.1 HL.out)])
    go_enter Tryd.func92, Tryd.ntmps92
    go_wp2_with fail
    go_ret
    exact ⟨by rw [HR.out]; rfl, below_size⟩
  have g0 : ((n : Int) == 0) = false := by simpa using h0
  have HR := Lib.hid (show strOfNums (xs.map (48 + ·)) = bs (wordT xs) by rw [wordT, if_neg (fun h => h0 (by rw [← HL.out, h]; rfl)), digT_text HX.out])
  go_enter Tryd.func92, Tryd.ntmps92
  go_wp2_with fail
  go_loopw [3, 4] (fun v iv wr => ∃ (k : Nat) (C : Option Addr) (cc : Nat), iv = .int .i64 k ∧ v = .slice C k cc ∧ k ≤ n ∧ Own wr w.heap.size 5 1 C k cc (((xs.take k).map (48 + ·)).map (Value.int .u8)) ∧ Below w.heap.size w wr) (fun _ iv _ => n - (intOf iv).toNat)
  case atStart => exact ⟨0, _, _, rfl, rfl, by omega, Own.lit (Nat.le_refl _), below_size.alloc (Nat.le_refl _) _⟩
  case round =>
    obtain ⟨k, C, cc, rfl, rfl, hk, own, hb⟩ := hrel
    have HO := Lib.hid own; have HB := Lib.hid hb
    have hbs := hb.size
    by_cases hlt : k < n
    · obtain ⟨ad, x, rfl, hab, hx, hcx⟩ := (H.out.below hb).at_ hlt
      have hxb := HX.out x (List.mem_of_getElem? hx)
      have HE := Lib.hid (show ((xs.take (k + 1)).map (48 + ·)).map (Value.int .u8) = ((xs.take k).map (48 + ·)).map (Value.int .u8) ++ [.int .u8 (48 + x)] by rw [List.take_add_one, hx]; simp)
      clear hx hb own
      go_wp2_with (at_builtin; refine wp_app1 (by rfl) _ _ 108 5 (.int .u8 0) 1 (by rfl) Tryd.underlying108 info_u8 rfl w.heap.size C k cc (((xs.take k).map (48 + ·)).map (Value.int .u8)) (by rfl) (by exact HO.out.alloc _) wr.heap.size (.int .u8 (48 + x)) (by rfl) (by exact new_cell _ _ _ 0) rfl (by omega) (by omega) (by simp; omega) ?_; intro g' cap w2 own2 hb2 hk2 hg2 hz2)
      have O2 := Lib.hid own2; have HB2 := Lib.hid hb2
      clear own2 hb2 hk2 hg2 hz2
      go_wp2_with fail
      go_roundw
      case rel => exact ⟨k + 1, some ⟨g', 0, none⟩, cap, by go_num, rfl, by omega, by rw [HE.out]; exact O2.out, (HB.out.alloc HB.out.size _).trans HB2.out⟩
      case measure => simp [intOf]; omega
    · obtain rfl : k = n := by omega
      obtain ⟨_, _, e1, _, _, _, _, _, _⟩ := HO.out.wr.at_ (k := 0) (by omega)
      have hbk := HO.out.block e1
      obtain ⟨g5, hg5⟩ : ∃ g5, C = some ⟨g5, 0, none⟩ := ⟨_, by rw [e1, hbk.2.2.1]⟩
      subst hg5
      have hcv := fun dst hd => run_convert_bytes_arg (P := Tryd.prog) wr 108 5 Tryd.underlying108 Tryd.underlying5 g5 0 k cc (xs.map (48 + ·)) (by rw [List.length_map, HL.out]) (bytes_rd (by have := HO.out.wr; rw [List.take_of_length_le (by rw [HL.out]; exact Nat.le_refl _)] at this; exact this)) dst hd
      have hcv2 := hcv 9 Tryd.underlying9
      clear hcv e1 hbk hb own
      go_wp2_with fail
      go_ret
      exact ⟨by rw [← HR.out]; rfl, HB.out⟩
set_option maxHeartbeats 2000000 in
set_option maxRecDepth 100000 in
theorem l05Digits_c (A : Option Addr) (n c : Nat) (xs : List Int) (w : World) (h : RdI w A n xs) (hn : n ≤ 10000000) (hx : dgs xs) :
    Calls Tryd.prog 63 #[.slice A n c] w fun e w' => e = .returned (.string (bs (digT xs))) ∧ Below w.heap.size w w' := by
  have HL := Lib.hid h.len
  have H := Lib.hid h; clear h
  have HX := Lib.hid hx; clear hx
  by_cases h0 : n = 0
  · subst h0
    have HR := Lib.hid (show digT xs = [] by rw [List.length_eq_zero_iff.1 HL.out]; rfl)
    go_enter Tryd.func63, Tryd.ntmps63
    go_wp2_with fail
    go_ret
    exact ⟨by rw [HR.out]; rfl, below_size⟩
  have g0 : ((n : Int) == 0) = false := by simpa using h0
  have HR := Lib.hid (show wordT xs = digT xs by rw [wordT, if_neg (fun h => h0 (by rw [← HL.out, h]; rfl))])
  clear h0
  go_enter Tryd.func63, Tryd.ntmps63
  go_wp2_with (go_at_call 92; refine (l03Text_c A n c xs _ H.out hn HX.out).mono ?_; rintro e w1 ⟨rfl, hb1⟩)
  go_ret
  exact ⟨by rw [← HR.out]; rfl, hb1⟩
end Go.Proofs.YtfbmjlohdhogmaaDoor
