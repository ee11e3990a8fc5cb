/-
  Reading, second part: the program's readers of numbers, digits, words, over the library's contracts.
-/
import Derived.Test.YtdendllginlidaaGreatDoorCSa
import Derived.Test.YtdendllginlidaaGreatDoorCTc
namespace Go.Proofs.YtdendllginlidaaGreatDoor
open Go.RowKit

/-- what the library's functions ask of the package-level variables -/
structure LibS (w : World) : Prop where
  tab : Tab w
  mx : ∃ m, w.cell? ⟨0, 0, none⟩ = some (.int .i64 m)
  es : ∃ te pe, w.cell? ⟨1, 0, none⟩ = some (.iface te pe)
  er : ∃ te pe, w.cell? ⟨2, 0, none⟩ = some (.iface te pe)
theorem LibS.below {w w' : World} (h : LibS w) (hb : Below w.heap.size w w') : LibS w' := by
  obtain ⟨m, hm⟩ := h.mx; obtain ⟨a, b, hs⟩ := h.es; obtain ⟨c, d, hr⟩ := h.er
  exact ⟨h.tab.below hb, ⟨m, keepc hb hm⟩, ⟨a, b, keepc hb hs⟩, ⟨c, d, keepc hb hr⟩⟩
theorem LibS.alloc {w : World} (h : LibS w) (o : Obj) : LibS (w.alloc o) := h.below (below_size.alloc (Nat.le_refl _) o)
theorem LibS.drew {w : World} (h : LibS w) : LibS w.drew := h.below (below_drew below_size)
theorem bs_of (x : ByteArray) : bs x.data.toList = x := by apply ByteArray.ext; simp [bs]
theorem bs_dataS (l : List UInt8) : (bs l).data.toList = l := by simp [bs]
theorem Split_c (s : List UInt8) (c : UInt8) (m : Nat) (hm : (spl c s).length = m) (w : World) (hL : LibS w) (hs : s.length ≤ 1048576) :
    Calls Tryz.prog 38 #[.string (bs s), .string ⟨#[c]⟩] w (StrOut (spl c s) m w) := by
  obtain ⟨mx, hmx⟩ := hL.mx
  refine (Tryz.strings_Split (bs s) ⟨#[c]⟩ mx w (by rw [bs_size]; omega) hmx (Nat.le_refl 1)).mono ?_
  rintro e w' ⟨rfl, rfl⟩
  have h1 := countB1 c (bs s)
  have h2 := splitB1 c (bs s)
  rw [bs_dataS] at h1 h2
  rw [h1, hm]
  have h3 : (Lib.splitB ⟨#[c]⟩ 0 (Lib.countB (bs s) ⟨#[c]⟩) (bs s)).map Value.string = (spl c s).map fun l => .string (bs l) := by
    rw [← h2, List.map_map]
    exact List.map_congr_left fun x _ => by show Value.string x = .string (bs x.data.toList); rw [bs_of]
  rw [h3]
  have hml : m ≤ 1000000000 := by rw [← hm, spl_len]; have := List.count_le_length (a := c) (l := s); omega
  refine ⟨_, m, rfl, ?_, below_size.alloc (Nat.le_refl _) _⟩
  refine ⟨by rw [List.length_map, hm, Nat.mul_one], .inr ⟨w.heap.size, m, _, rfl, Nat.le_refl _, heap_alloc_new w _, Nat.le_refl _, by simp [maxLen]; omega, by simp [hm], by rw [Nat.mul_one]; exact List.take_of_length_le (by rw [List.length_map, hm]; exact Nat.le_refl _)⟩⟩
/-- numbers of the call's own, and a Bool -/
def numsV : Option (List Int) → List Int × Bool
  | some xs => (xs, true)
  | none => ([], false)
def NumsOut (R : List Int × Bool) (w : World) (e : Ending) (w' : World) : Prop := ∃ A n c, e = .returned (.tuple #[.slice A n c, .bool R.2]) ∧ Own w' w.heap.size 2 1 A n c (R.1.map i64) ∧ Below w.heap.size w w'
theorem NumsOut.bad {w w' : World} (h : Below w.heap.size w w') : NumsOut ([], false) w (.returned (.tuple #[.slice none 0 0, .bool false])) w' := ⟨none, 0, 0, rfl, Own.nil, h⟩
theorem trimP (s : List UInt8) : Lib.trimPrefix s [45] = tlD s := by
  cases s with
  | nil => rfl
  | cons c r =>
    by_cases hc : c = 45
    · subst hc; rfl
    · have : List.isPrefixOf [45] (c :: r) = false := by simp [List.isPrefixOf]; exact fun e => hc e.symm
      rw [tlD_pos r hc, Lib.trimPrefix]
      simp [Lib.hasPrefix, this]
set_option maxHeartbeats 2000000 in
set_option maxRecDepth 100000 in
theorem ReadDecimal_c (s : List UInt8) (v : Int) (q : Bool) (w : World) (hL : LibS w) (hs : s.length ≤ 1048576) (hv : numV (numD s) = (v, q)) :
    Calls Tryz.prog 28 #[.string (bs s)] w fun e w' => e = .returned (.tuple #[.int .i64 v, .bool q]) ∧ Below w.heap.size w w' := by
  rw [← rdP_eq] at hv
  have NO := Lib.hid (show rdP s = none → v = 0 ∧ q = false from fun h => by rw [h] at hv; injection hv with h1 h2; exact ⟨h1.symm, h2.symm⟩)
  obtain ⟨ts, hts⟩ := hL.es; obtain ⟨te, hte⟩ := hts
  obtain ⟨us, hus⟩ := hL.er; obtain ⟨ue, hue⟩ := hus
  have HL := Lib.hid hL
  have gs := bs_toListS s
  rcases hp : Lib.parseIntB 64 s with n | _ | _
  rotate_left
  · skip
    obtain ⟨rfl, rfl⟩ := NO.out (by rw [rdP, hp])
    have HC := Lib.hid (Tryz.strconv_ParseInt_10_at64_syntax (bs s) (by rw [bs_size]; omega) (by rw [bs_dataS]; exact hp) _ w hte (.inr ⟨ts, te, rfl⟩))
    clear hv hL hte hue NO
    go_enter Tryz.func28, Tryz.ntmps28
    go_wp2_with (go_at_call 55; refine HC.out.mono ?_; rintro e w1 ⟨N, rfl, hN, hN2, hb1⟩; clear hN2)
    go_ret2
    exact ⟨rfl, hb1⟩
  · skip
    obtain ⟨rfl, rfl⟩ := NO.out (by rw [rdP, hp])
    have HC := Lib.hid (Tryz.strconv_ParseInt_10_at64_range (bs s) (by rw [bs_size]; omega) (by rw [bs_dataS]; exact hp) _ w hue (.inr ⟨us, ue, rfl⟩))
    obtain ⟨sat, hsat⟩ : ∃ x, Lib.intSat 64 (bs s).data.toList = x := ⟨_, rfl⟩
    rw [hsat] at HC
    clear hv hL hte hue NO hsat
    go_enter Tryz.func28, Tryz.ntmps28
    go_wp2_with (go_at_call 55; refine HC.out.mono ?_; rintro e w1 ⟨N, rfl, hN, hN2, hb1⟩; clear hN2)
    go_ret2
    exact ⟨rfl, hb1⟩
  · skip
    have hbd := Lib.parseIntB_bounds hp
    have hn0 : -9223372036854775808 ≤ n := by have := hbd.1; simp at this; omega
    have hn1 : n ≤ 9223372036854775807 := by have := hbd.2; simp at this; omega
    have HC := Lib.hid (show Calls Tryz.prog 55 #[.string (bs s), .int .i64 10, .int .i64 64] w fun e w' => e = .returned (.tuple #[.int .i64 n, .nilIface]) ∧ Below w.heap.size w w' from by
      refine (Tryz.strconv_ParseInt_10_at64_ok (bs s) (by rw [bs_size]; omega) n (by rw [bs_dataS]; exact hp) w).mono ?_
      rintro e w' ⟨rfl, h⟩
      refine ⟨rfl, ?_⟩
      rcases h with rfl | ⟨t, rfl⟩
      · exact below_size
      · exact Joins.below_bytesWorld _ _ _ _ (Nat.le_refl _))
    have HT := Lib.hid (Tryz.strings_TrimPrefix (bs s) ⟨#[45]⟩)
    have HTT := Lib.hid (show ∀ w, Calls Tryz.prog 57 #[.string (bs s), .string ⟨#[45]⟩] w fun e w' => e = .returned (.string (bs (tlD s))) ∧ w = w' from fun w => by
      refine (HT.out w).mono ?_
      rintro e w' ⟨rfl, rfl⟩
      refine ⟨?_, rfl⟩
      rw [bs_dataS]
      show Ending.returned (.string ⟨(Lib.trimPrefix s [45]).toArray⟩) = _
      rw [trimP]; rfl)
    obtain ⟨m, hm⟩ : ∃ m, (tlD s).length = m := ⟨_, rfl⟩
    have hmz : (bs (tlD s)).size = m := by rw [bs_size, hm]
    have hms : m ≤ 1048576 := by
      rw [← hm]; unfold tlD; split
      · rw [List.length_tail]; omega
      · omega
    have gt := bs_toListS (Lib.itoa n)
    have hRD : rdP s = if Lib.itoa n = s ∧ (tlD s).length ≤ 18 then some n else none := by rw [rdP, hp]
    rw [hm] at hRD
    by_cases ht : Lib.itoa n = s
    · have ge : (Lib.itoa n == s) = true := by rw [beq_iff_eq]; exact ht
      by_cases h18 : m ≤ 18
      · obtain ⟨rfl, rfl⟩ : v = n ∧ q = true := by
          rw [hRD, if_pos ⟨ht, h18⟩] at hv
          injection hv with h1 h2
          exact ⟨h1.symm, h2.symm⟩
        clear hv hL hte hue NO hRD ht hm hbd hp HT
        go_enter Tryz.func28, Tryz.ntmps28
        go_wp2_with (first
          | (go_at_call 55; refine HC.out.mono ?_; rintro e w1 ⟨rfl, hb1⟩; have B1 := Lib.hid hb1; clear hb1)
          | (go_at_call 56; refine (Decimal_c _ _ hn0 hn1 (HL.out.below B1.out).tab).mono ?_; rintro e w2 ⟨rfl, hb2⟩; have B2 := Lib.hid (below_chain B1.out B1.out.size hb2); clear hb2)
          | (go_at_call 57; refine (HTT.out _).mono ?_; rintro e w' ⟨rfl, rfl⟩))
        go_ret2
        exact ⟨rfl, B2.out⟩
      · obtain ⟨rfl, rfl⟩ := NO.out (by rw [hRD, if_neg (fun h => h18 h.2)])
        clear hv hL hte hue NO hRD ht hm hbd hp HT
        go_enter Tryz.func28, Tryz.ntmps28
        go_wp2_with (first
          | (go_at_call 55; refine HC.out.mono ?_; rintro e w1 ⟨rfl, hb1⟩; have B1 := Lib.hid hb1; clear hb1)
          | (go_at_call 56; refine (Decimal_c _ _ hn0 hn1 (HL.out.below B1.out).tab).mono ?_; rintro e w2 ⟨rfl, hb2⟩; have B2 := Lib.hid (below_chain B1.out B1.out.size hb2); clear hb2)
          | (go_at_call 57; refine (HTT.out _).mono ?_; rintro e w' ⟨rfl, rfl⟩))
        go_ret2
        exact ⟨rfl, B2.out⟩
    · have ge : (Lib.itoa n == s) = false := by rw [beq_eq_false_iff_ne]; exact ht
      obtain ⟨rfl, rfl⟩ := NO.out (by rw [hRD, if_neg (fun h => ht h.1)])
      clear hv hL hte hue NO hRD ht hm hbd hp HT
      go_enter Tryz.func28, Tryz.ntmps28
      go_wp2_with (first
        | (go_at_call 55; refine HC.out.mono ?_; rintro e w1 ⟨rfl, hb1⟩; have B1 := Lib.hid hb1; clear hb1)
        | (go_at_call 56; refine (Decimal_c _ _ hn0 hn1 (HL.out.below B1.out).tab).mono ?_; rintro e w2 ⟨rfl, hb2⟩; have B2 := Lib.hid (below_chain B1.out B1.out.size hb2); clear hb2)
        | (go_at_call 57; refine (HTT.out _).mono ?_; rintro e w' ⟨rfl, rfl⟩))
      go_ret2
      exact ⟨rfl, B2.out⟩
end Go.Proofs.YtdendllginlidaaGreatDoor
