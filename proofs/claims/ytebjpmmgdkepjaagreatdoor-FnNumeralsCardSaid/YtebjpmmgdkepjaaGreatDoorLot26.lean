/-
  Parts of the proof, one behind the other: contracts of the functions that the law reaches, and plain laws.
-/
import Derived.Shelf.Strings.SlTrimAscii
import Derived.BigQuiet
import Derived.Test.YtebjpmmgdkepjaaGreatDoorLot06
import Derived.Test.YtebjpmmgdkepjaaGreatDoorLot18
import Derived.Test.YtebjpmmgdkepjaaGreatDoorLot19
import Derived.Test.YtebjpmmgdkepjaaGreatDoorLot21
import Derived.Test.YtebjpmmgdkepjaaGreatDoorLot25
/-
  Reading, second part: the program's readers of numbers, digits, words, over the library's contracts.
-/
namespace Go.Proofs.YtebjpmmgdkepjaaGreatDoor
open Go.RowKit

/-- what the library's functions ask of the package-level variables -/
structure LibS (w : World) : Prop where
  tab : Tab w
  mx : ∃ m, w.cell? ⟨5, 0, none⟩ = some (.int .i64 m)
  es : ∃ te pe, w.cell? ⟨0, 0, none⟩ = some (.iface te pe)
  er : ∃ te pe, w.cell? ⟨1, 0, none⟩ = some (.iface te pe)
theorem LibS.below {w w' : World} (h : LibS w) (hb : Below w.heap.size w w') : LibS w' := by
  obtain ⟨m, hm⟩ := h.mx; obtain ⟨a, b, hs⟩ := h.es; obtain ⟨c, d, hr⟩ := h.er
  exact ⟨h.tab.below hb, ⟨m, keepc hb hm⟩, ⟨a, b, keepc hb hs⟩, ⟨c, d, keepc hb hr⟩⟩
theorem LibS.alloc {w : World} (h : LibS w) (o : Obj) : LibS (w.alloc o) := h.below (below_size.alloc (Nat.le_refl _) o)
theorem LibS.drew {w : World} (h : LibS w) : LibS w.drew := h.below (below_drew below_size)
theorem bs_of (x : ByteArray) : bs x.data.toList = x := by apply ByteArray.ext; simp [bs]
theorem bs_dataS (l : List UInt8) : (bs l).data.toList = l := by simp [bs]
/-- numbers of the call's own, and a Bool -/
def numsV : Option (List Int) → List Int × Bool
  | some xs => (xs, true)
  | none => ([], false)
def NumsOut (R : List Int × Bool) (w : World) (e : Ending) (w' : World) : Prop := ∃ A n c, e = .returned (.tuple #[.slice A n c, .bool R.2]) ∧ Own w' w.heap.size 2 1 A n c (R.1.map i64) ∧ Below w.heap.size w w'
theorem NumsOut.bad {w w' : World} (h : Below w.heap.size w w') : NumsOut ([], false) w (.returned (.tuple #[.slice none 0 0, .bool false])) w' := ⟨none, 0, 0, rfl, Own.nil, h⟩
theorem trimP (s : List UInt8) : Lib.trimPrefix s [45] = tlD s := by
  cases s with
  | nil => rfl
  | cons c r =>
    by_cases hc : c = 45
    · subst hc; rfl
    · have : List.isPrefixOf [45] (c :: r) = false := by simp [List.isPrefixOf]; exact fun e => hc e.symm
      rw [tlD_pos r hc, Lib.trimPrefix]
      simp [Lib.hasPrefix, this]
set_option maxHeartbeats 2000000 in
set_option maxRecDepth 100000 in
theorem ReadDecimal_c (s : List UInt8) (v : Int) (q : Bool) (w : World) (hL : LibS w) (hs : s.length ≤ 1048576) (hv : numV (numD s) = (v, q)) :
    Calls Tryz.prog 98 #[.string (bs s)] w fun e w' => e = .returned (.tuple #[.int .i64 v, .bool q]) ∧ Below w.heap.size w w' := by
  rw [← rdP_eq] at hv
  have NO := Lib.hid (show rdP s = none → v = 0 ∧ q = false from fun h => by rw [h] at hv; injection hv with h1 h2; exact ⟨h1.symm, h2.symm⟩)
  obtain ⟨ts, hts⟩ := hL.es; obtain ⟨te, hte⟩ := hts
  obtain ⟨us, hus⟩ := hL.er; obtain ⟨ue, hue⟩ := hus
  have HL := Lib.hid hL
  have gs := bs_toListS s
  rcases hp : Lib.parseIntB 64 s with n | _ | _
  rotate_left
  · skip
    obtain ⟨rfl, rfl⟩ := NO.out (by rw [rdP, hp])
    have HC := Lib.hid (Tryz.strconv_ParseInt_10_at64_syntax (bs s) (by rw [bs_size]; omega) (by rw [bs_dataS]; exact hp) _ w hte (.inr ⟨ts, te, rfl⟩))
    clear hv hL hte hue NO
    go_enter Tryz.func98, Tryz.ntmps98
    go_wp2_with (go_at_call 137; refine HC.out.mono ?_; rintro e w1 ⟨N, rfl, hN, hN2, hb1⟩; clear hN2)
    go_ret2
    exact ⟨rfl, hb1⟩
  · skip
    obtain ⟨rfl, rfl⟩ := NO.out (by rw [rdP, hp])
    have HC := Lib.hid (Tryz.strconv_ParseInt_10_at64_range (bs s) (by rw [bs_size]; omega) (by rw [bs_dataS]; exact hp) _ w hue (.inr ⟨us, ue, rfl⟩))
    obtain ⟨sat, hsat⟩ : ∃ x, Lib.intSat 64 (bs s).data.toList = x := ⟨_, rfl⟩
    rw [hsat] at HC
    clear hv hL hte hue NO hsat
    go_enter Tryz.func98, Tryz.ntmps98
    go_wp2_with (go_at_call 137; refine HC.out.mono ?_; rintro e w1 ⟨N, rfl, hN, hN2, hb1⟩; clear hN2)
    go_ret2
    exact ⟨rfl, hb1⟩
  · skip
    have hbd := Lib.parseIntB_bounds hp
    have hn0 : -9223372036854775808 ≤ n := by have := hbd.1; simp at this; omega
    have hn1 : n ≤ 9223372036854775807 := by have := hbd.2; simp at this; omega
    have HC := Lib.hid (show Calls Tryz.prog 137 #[.string (bs s), .int .i64 10, .int .i64 64] w fun e w' => e = .returned (.tuple #[.int .i64 n, .nilIface]) ∧ Below w.heap.size w w' from by
      refine (Tryz.strconv_ParseInt_10_at64_ok (bs s) (by rw [bs_size]; omega) n (by rw [bs_dataS]; exact hp) w).mono ?_
      rintro e w' ⟨rfl, h⟩
      refine ⟨rfl, ?_⟩
      rcases h with rfl | ⟨t, rfl⟩
      · exact below_size
      · exact Joins.below_bytesWorld _ _ _ _ (Nat.le_refl _))
    have HT := Lib.hid (Tryz.strings_TrimPrefix (bs s) ⟨#[45]⟩)
    have HTT := Lib.hid (show ∀ w, Calls Tryz.prog 139 #[.string (bs s), .string ⟨#[45]⟩] w fun e w' => e = .returned (.string (bs (tlD s))) ∧ w = w' from fun w => by
      refine (HT.out w).mono ?_
      rintro e w' ⟨rfl, rfl⟩
      refine ⟨?_, rfl⟩
      rw [bs_dataS]
      show Ending.returned (.string ⟨(Lib.trimPrefix s [45]).toArray⟩) = _
      rw [trimP]; rfl)
    obtain ⟨m, hm⟩ : ∃ m, (tlD s).length = m := ⟨_, rfl⟩
    have hmz : (bs (tlD s)).size = m := by rw [bs_size, hm]
    have hms : m ≤ 1048576 := by
      rw [← hm]; unfold tlD; split
      · rw [List.length_tail]; omega
      · omega
    have gt := bs_toListS (Lib.itoa n)
    have hRD : rdP s = if Lib.itoa n = s ∧ (tlD s).length ≤ 18 then some n else none := by rw [rdP, hp]
    rw [hm] at hRD
    by_cases ht : Lib.itoa n = s
    · have ge : (Lib.itoa n == s) = true := by rw [beq_iff_eq]; exact ht
      by_cases h18 : m ≤ 18
      · obtain ⟨rfl, rfl⟩ : v = n ∧ q = true := by
          rw [hRD, if_pos ⟨ht, h18⟩] at hv
          injection hv with h1 h2
          exact ⟨h1.symm, h2.symm⟩
        clear hv hL hte hue NO hRD ht hm hbd hp HT
        go_enter Tryz.func98, Tryz.ntmps98
        go_wp2_with (first
          | (go_at_call 137; refine HC.out.mono ?_; rintro e w1 ⟨rfl, hb1⟩; have B1 := Lib.hid hb1; clear hb1)
          | (go_at_call 138; refine (Decimal_c _ _ hn0 hn1 (HL.out.below B1.out).tab).mono ?_; rintro e w2 ⟨rfl, hb2⟩; have B2 := Lib.hid (below_chain B1.out B1.out.size hb2); clear hb2)
          | (go_at_call 139; refine (HTT.out _).mono ?_; rintro e w' ⟨rfl, rfl⟩))
        go_ret2
        exact ⟨rfl, B2.out⟩
      · obtain ⟨rfl, rfl⟩ := NO.out (by rw [hRD, if_neg (fun h => h18 h.2)])
        clear hv hL hte hue NO hRD ht hm hbd hp HT
        go_enter Tryz.func98, Tryz.ntmps98
        go_wp2_with (first
          | (go_at_call 137; refine HC.out.mono ?_; rintro e w1 ⟨rfl, hb1⟩; have B1 := Lib.hid hb1; clear hb1)
          | (go_at_call 138; refine (Decimal_c _ _ hn0 hn1 (HL.out.below B1.out).tab).mono ?_; rintro e w2 ⟨rfl, hb2⟩; have B2 := Lib.hid (below_chain B1.out B1.out.size hb2); clear hb2)
          | (go_at_call 139; refine (HTT.out _).mono ?_; rintro e w' ⟨rfl, rfl⟩))
        go_ret2
        exact ⟨rfl, B2.out⟩
    · have ge : (Lib.itoa n == s) = false := by rw [beq_eq_false_iff_ne]; exact ht
      obtain ⟨rfl, rfl⟩ := NO.out (by rw [hRD, if_neg (fun h => ht h.1)])
      clear hv hL hte hue NO hRD ht hm hbd hp HT
      go_enter Tryz.func98, Tryz.ntmps98
      go_wp2_with (first
        | (go_at_call 137; refine HC.out.mono ?_; rintro e w1 ⟨rfl, hb1⟩; have B1 := Lib.hid hb1; clear hb1)
        | (go_at_call 138; refine (Decimal_c _ _ hn0 hn1 (HL.out.below B1.out).tab).mono ?_; rintro e w2 ⟨rfl, hb2⟩; have B2 := Lib.hid (below_chain B1.out B1.out.size hb2); clear hb2)
        | (go_at_call 139; refine (HTT.out _).mono ?_; rintro e w' ⟨rfl, rfl⟩))
      go_ret2
      exact ⟨rfl, B2.out⟩
end Go.Proofs.YtebjpmmgdkepjaaGreatDoor
/-
  Functions as terms: the program's reader of a term's text, first part: digits and one element.
-/
namespace Go.Proofs.YtebjpmmgdkepjaaGreatDoor
open Go.RowKit

def digC : List UInt8 := [48, 49, 50, 51, 52, 53, 54, 55, 56, 57]
theorem isDg_mem (c : UInt8) : digC.contains c = isDg c := by
  have h : ∀ n : Fin 256, digC.contains (UInt8.ofNat n.val) = isDg (UInt8.ofNat n.val) := by decide +kernel
  have := h ⟨c.toNat, UInt8.toNat_lt c⟩
  simpa using this
theorem trimDg : ∀ s : List UInt8, Lib.trimLeftS s digC = s.drop (dgN s)
  | [] => rfl
  | c :: s => by
    show (c :: s).dropWhile (digC.contains ·) = _
    rw [List.dropWhile_cons, dgN]
    have hc : digC.contains c = isDg c := isDg_mem c
    cases h : isDg c
    · rw [hc, h]; simp
    · rw [hc, h]
      simp only [if_true]
      rw [List.drop_succ_cons]
      exact trimDg s
theorem tz116 : (Tryz.prog.info? (Tryz.lays161_ren.t 116)).map (fun i => (i.zero, i.size)) = some (some (.agg (Array.replicate 256 (.bool false))), 256) := by kernel_rfl
set_option maxHeartbeats 1000000 in
theorem digits_c (s : List UInt8) (k : Nat) (w : World) (hs : s.length ≤ 1048576) (hk : dgN s = k) : Calls Tryz.prog 97 #[.string (bs s)] w fun e w' => e = .returned (.int .i64 k) ∧ Below w.heap.size w w' := by
  obtain ⟨n, hn⟩ : ∃ n, s.length = n := ⟨_, rfl⟩
  have hz : (bs s).size = n := by rw [bs_size, hn]
  have hkn : k ≤ n := by rw [← hk, ← hn]; exact dgN_le s
  have HC := Lib.hid (show Calls Tryz.prog 136 #[.string (bs s), .string ⟨#[48, 49, 50, 51, 52, 53, 54, 55, 56, 57]⟩] w fun e w' => e = .returned (.string (bs (s.drop k))) ∧ Below w.heap.size w w' from by
    refine (Any.strings_TrimLeft_laid Tryz.lays161 tz116 (bs s) ⟨#[48, 49, 50, 51, 52, 53, 54, 55, 56, 57]⟩ w (by decide) (ascii_of_all (by decide))).mono ?_
    rintro e w' ⟨rfl, hb⟩
    rw [bs_dataS]
    show Ending.returned (.string ⟨(Lib.trimLeftS s digC).toArray⟩) = _ ∧ _
    rw [trimDg, hk]
    exact ⟨rfl, hb⟩)
  have hz2 : (bs (s.drop k)).size = n - k := by rw [bs_size, List.length_drop, hn]
  have e1 : (n : Int) - ((n - k : Nat) : Int) = (k : Int) := by omega
  rw [hn] at hs
  have v1 : IntKind.i64.wrap ((n : Int) - ((n - k : Nat) : Int)) = (k : Int) := by rw [e1]; exact IntWalk.i64_in _ (by omega)
  clear hn hk
  go_enter Tryz.func97, Tryz.ntmps97
  go_wp2_with fail
  refine HC.out.mono ?_
  rintro e w1 ⟨rfl, hb⟩
  have B := Lib.hid hb; clear hb
  go_wp2_with fail
  go_ret
  exact ⟨rfl, B.out⟩
/-- one element off a text, and how many bytes it takes -/
def elI (s : List UInt8) : Int × Int × Nat := if s.head? = some 94 then (1, 0, 1) else match numD (s.take (dgN s)) with
  | none => (0, 0, 0)
  | some v => (0, v, dgN s)
theorem run_slT (s : List UInt8) (k : Nat) (hk : k ≤ s.length) (w : World) : (Instr.slice 9 (.string (bs s)) none (some (.int .i64 (k : Int))) none).run Tryz.prog w = .ok (.string (bs (s.take k))) w := by
  rw [run_slice_string_to_if w 9 (bs s) .i64 (k : Int) Tryz.underlying9, if_pos ⟨by omega, by rw [bs_size]; omega⟩]
  have h := bs_ext s 0 k
  rw [List.drop_zero, Nat.sub_zero] at h
  exact congrArg (fun x => Result.ok (Value.string x) w) h
set_option maxHeartbeats 2000000 in
theorem ReadLam1_c (s : List UInt8) (R : Int × Int × Nat) (w : World) (hs : s.length ≤ 1048576) (h0 : s ≠ []) (hL : LibS w) (hR : elI s = R) :
    Calls Tryz.prog 96 #[.string (bs s)] w fun e w' => e = .returned (.tuple #[.agg #[.int .i64 R.1, .int .i64 R.2.1], .int .i64 R.2.2]) ∧ Below w.heap.size w w' := by
  obtain ⟨c, s', rfl⟩ : ∃ c s', s = c :: s' := by cases s with | nil => exact absurd rfl h0 | cons c s' => exact ⟨c, s', rfl⟩
  obtain ⟨x, hx⟩ : ∃ x : Int, (c.toNat : Int) = x := ⟨_, rfl⟩
  have hix : ∀ w, (Instr.index 9 (.string (bs (c :: s'))) (.int .i64 0)).run Tryz.prog w = .ok (.int .u8 x) w := fun w => run_ixS (k := 0) (s := c :: s') rfl hx w
  have HR := Lib.hid hR; have HL := Lib.hid hL
  have Z1 := Lib.hid (Blk.new w 62 #[i64 0, i64 0])
  have B1 := Lib.hid (show Below w.heap.size w (w.alloc (.cells #[i64 0, i64 0] 62)) from below_size.alloc (Nat.le_refl _) _)
  clear hR hL
  by_cases h94 : c = 94
  · have g1 : (x == 94) = true := by rw [beq_iff_eq, ← hx, h94]; rfl
    have HG := Lib.hid (show ((1, 0, 1) : Int × Int × Nat) = R by rw [← HR.out, elI, if_pos (by rw [h94]; rfl)])
    clear hx h94
    go_enter Tryz.func96, Tryz.ntmps96
    go_wp2_with fail
    refine bodyPost_ret (v := .tuple #[.agg #[i64 1, i64 0], .int .i64 1]) (by simp [results, Tryz.results96, go_sem]) rfl ?_
    rw [← HG.out]
    exact ⟨rfl, below_size.alloc (Nat.le_refl _) _⟩
  have g1 : (x == 94) = false := by rw [beq_eq_false_iff_ne, ← hx]; exact fun e => h94 (UInt8.toNat_inj.1 (by show c.toNat = 94; omega))
  obtain ⟨k, hk⟩ : ∃ k, dgN (c :: s') = k := ⟨_, rfl⟩
  have hkn : k ≤ (c :: s').length := by rw [← hk]; exact dgN_le _
  have hsl := fun w => run_slT (c :: s') k hkn w
  obtain ⟨P, hP⟩ : ∃ P, (c :: s').take k = P := ⟨_, rfl⟩
  rw [hP] at hsl
  have HPL := Lib.hid (show P.length ≤ 1048576 by rw [← hP, List.length_take]; omega)
  have HS := Lib.hid hs; have HK := Lib.hid hk
  have HR2 := Lib.hid (show (match numD P with | none => ((0, 0, 0) : Int × Int × Nat) | some v => (0, v, k)) = R by rw [← HR.out, elI, if_neg (by simpa using h94), hk, hP])
  obtain ⟨⟨v, q⟩, hv⟩ : ∃ r, numV (numD P) = r := ⟨_, rfl⟩
  have HV := Lib.hid hv
  clear hx h94 hk hP hv hs h0 hkn
  cases q
  · have HG := Lib.hid (show ((0, 0, 0) : Int × Int × Nat) = R by
      have h1 := HV.out
      have h2 := HR2.out
      cases h : numD P with
      | none => rw [h] at h2; exact h2
      | some y => rw [h] at h1; injection h1 with _ h1; cases h1)
    go_enter Tryz.func96, Tryz.ntmps96
    go_wp2_with fail
    refine (digits_c (c :: s') k _ HS.out HK.out).mono ?_
    rintro e w2 ⟨rfl, hb2⟩
    have B2 := Lib.hid (B1.out.trans (hb2.mono B1.out.size)); have Z2 := Lib.hid (Z1.out.keep hb2)
    clear hb2
    go_wp2_with fail
    refine (ReadDecimal_c P v false w2 (HL.out.below B2.out) HPL.out HV.out).mono ?_
    rintro e w3 ⟨rfl, hb3⟩
    have B3 := Lib.hid (B2.out.trans (hb3.mono B2.out.size)); have Z3 := Lib.hid (Z2.out.keep hb3)
    have r0 := Z3.out.cell 0; have r1 := Z3.out.cell 1; have f0 := Z3.out.frozen 0; have f1 := Z3.out.frozen 1
    simp at r0 r1
    clear hb3
    go_wp2_with fail
    refine bodyPost_ret (v := .tuple #[.agg #[i64 0, i64 0], .int .i64 0]) (by simp [results, Tryz.results96, go_sem, r0, r1]) rfl ?_
    rw [← HG.out]
    exact ⟨rfl, (B3.out.setCell (by exact Nat.le_refl _) _).setCell (by exact Nat.le_refl _) _⟩
  · have HG := Lib.hid (show ((0, v, k) : Int × Int × Nat) = R by
      have h1 := HV.out
      have h2 := HR2.out
      cases h : numD P with
      | none => rw [h] at h1; injection h1 with _ h1; cases h1
      | some y => rw [h] at h1 h2; injection h1 with h1 _; rw [← h1]; exact h2)
    go_enter Tryz.func96, Tryz.ntmps96
    go_wp2_with fail
    refine (digits_c (c :: s') k _ HS.out HK.out).mono ?_
    rintro e w2 ⟨rfl, hb2⟩
    have B2 := Lib.hid (B1.out.trans (hb2.mono B1.out.size)); have Z2 := Lib.hid (Z1.out.keep hb2)
    clear hb2
    go_wp2_with fail
    refine (ReadDecimal_c P v true w2 (HL.out.below B2.out) HPL.out HV.out).mono ?_
    rintro e w3 ⟨rfl, hb3⟩
    have B3 := Lib.hid (B2.out.trans (hb3.mono B2.out.size)); have Z3 := Lib.hid (Z2.out.keep hb3)
    clear hb3
    go_wp2_with fail
    refine (lamVar_c v w3).mono ?_
    rintro e w4 ⟨rfl, hb4⟩
    have B4 := Lib.hid (B3.out.trans (hb4.mono B3.out.size)); have Z4 := Lib.hid (Z3.out.keep hb4)
    have r0 := Z4.out.cell 0; have r1 := Z4.out.cell 1; have f0 := Z4.out.frozen 0; have f1 := Z4.out.frozen 1
    simp at r0 r1
    clear hb4
    go_wp2_with fail
    refine bodyPost_ret (v := .tuple #[.agg #[i64 0, i64 v], .int .i64 k]) (by simp [results, Tryz.results96, go_sem, r0, r1]) rfl ?_
    rw [← HG.out]
    exact ⟨rfl, (B4.out.setCell (by exact Nat.le_refl _) _).setCell (by exact Nat.le_refl _) _⟩
end Go.Proofs.YtebjpmmgdkepjaaGreatDoor
/-
  Functions as terms: the program's text of a term.
-/
namespace Go.Proofs.YtebjpmmgdkepjaaGreatDoor
open Go.RowKit

/-- a term and its text -/
inductive TxT : LT → List UInt8 → Prop
  | var {i : Int} : 0 ≤ i → i ≤ 399 → TxT [(0, i)] (Lib.itoa i)
  | abs {t : LT} {u : List UInt8} : TxT t u → TxT ((1, 0) :: t) (94 :: u)
  | app {a b : LT} {u v : List UInt8} : TxT a u → TxT b v → TxT ((2, 0) :: (a ++ b)) (40 :: (u ++ 32 :: (v ++ [41])))
theorem bs_cellsL (l : List UInt8) : Lib.strCells (bs l) = Lib.byteCells l := rfl
/-- a builder stays where all is kept -/
theorem bld_belowL {T e : TypeId} {B b : Nat} {bs : List Value} {W W' : World} (h : Lib.IsBuilderF T e B b bs W) (hb : Below W.heap.size W W') : Lib.IsBuilderF T e B b bs W' := by
  have one : ∀ p, Lib.BuilderAtF T e B b p bs W → Lib.BuilderAtF T e B b p bs W' := fun p h => by
    have hlt := h.lt
    obtain ⟨hB, v, hv, hown, hne⟩ := h
    exact ⟨hB, v, (hb.block b hlt).trans hv, hown.kept (row := none) ⟨hb.os, hb.tape, hb.output, hb.size, fun k hk _ => hb.block k hk⟩ (Classical.em _), hne⟩
  exact h.elim (fun x => .inl (one _ x)) (fun x => .inr (one _ x))
theorem cells_app (a b : List UInt8) : Lib.byteCells a ++ Lib.byteCells b = Lib.byteCells (a ++ b) := by simp [Lib.byteCells]
set_option maxHeartbeats 4000000 in
set_option maxRecDepth 100000 in
theorem lamText_c (A : Option Addr) (n cp : Nat) (f : LT) (B b : Nat) (w0 : World) (hn : n ≤ 400) (HR : Hid (∀ w', Below B w0 w' → Rd2 w' A n f)) (HT : Hid (∀ w', Below B w0 w' → Tab w')) {t : LT} {u : List UInt8} (h : TxT t u) :
    ∀ (k : Nat) (r : LT) (pre : List UInt8) (w : World), f.drop k = t ++ r → Lib.IsBuilderF 169 5 B b (Lib.byteCells pre) w → B ≤ w.heap.size → Below B w0 w → pre.length + u.length ≤ 100000 →
    Calls Tryz.prog 140 #[.pointer (some ⟨b, 0, none⟩), .slice A n cp, .int .i64 k] w fun e w' => e = .returned (.int .i64 ((k + t.length : Nat) : Int)) ∧ Lib.IsBuilderF 169 5 B b (Lib.byteCells (pre ++ u)) w' ∧ Below B w w' := by
  induction h with
  | @var i h1 h2 =>
    intro k r pre w hf hB hBw hb0 hl
    have hk : f[k]? = some (0, i) := by
      have := congrArg (fun l => l[0]?) hf
      simpa [List.getElem?_drop] using this
    have hkn : k < n := by have h9 := (HR.out w hb0).len; have := (List.getElem?_eq_some_iff.1 hk).1; omega
    obtain ⟨ad, x, rfl, _, hx, hc0, hc1⟩ := (HR.out w hb0).at_ hkn
    rw [hk] at hx; injection hx with hx; subst hx
    simp only at hc0 hc1
    have HB := Lib.hid hB; have HB0 := Lib.hid hb0
    have hil : (Lib.itoa i).length ≤ 30 := by have := itoa_len (x := i) (by omega); omega
    have hpl : (Lib.byteCells pre).length ≤ 100000 := by simp [Lib.byteCells]; omega
    have HTX := Lib.hid (HT.out w hb0)
    clear hf hB hb0 hk
    go_enter Tryz.func140, Tryz.ntmps140
    go_wp2_with fail
    refine (Decimal_c i w (by omega) (by omega) HTX.out).mono ?_
    rintro e w1 ⟨rfl, hb1⟩
    have B1 := Lib.hid (bld_belowL HB.out hb1); have z1 := hb1.size; have E1 := Lib.hid (hb1.mono hBw)
    clear hb1
    go_wp2_with fail
    refine (Tryz.Builder_WriteString_k B b (Lib.byteCells pre) (bs (Lib.itoa i)) w1 B1.out (by rw [bs_size]; omega) (by omega)).mono ?_
    rintro e w2 ⟨rfl, hf2, hb2, _⟩
    have F2 := Lib.hid (show Lib.IsBuilderF 169 5 B b (Lib.byteCells (pre ++ Lib.itoa i)) w2 by rw [bs_cellsL, cells_app] at hf2; exact Or.inr hf2); have E2 := Lib.hid (E1.out.trans hb2)
    clear hf2 hb2
    go_wp2_with fail
    go_ret
    exact ⟨by go_num, F2.out, E2.out⟩
  | @abs t u _ ih =>
    intro k r pre w hf hB hBw hb0 hl
    have hk : f[k]? = some (1, 0) := by
      have := congrArg (fun l => l[0]?) hf
      simpa [List.getElem?_drop] using this
    have hf1 : f.drop (k + 1) = t ++ r := by
      have h9 := drop_at hk
      rw [hf] at h9; injection h9 with _ h9; exact h9.symm
    have hkn : k < n := by have h9 := (HR.out w hb0).len; have := (List.getElem?_eq_some_iff.1 hk).1; omega
    obtain ⟨ad, x, rfl, _, hx, hc0, hc1⟩ := (HR.out w hb0).at_ hkn
    rw [hk] at hx; injection hx with hx; subst hx
    simp only at hc0 hc1
    rw [List.length_cons] at hl
    have HB := Lib.hid hB; have HB0 := Lib.hid hb0; have HF := Lib.hid hf1; have HL := Lib.hid hl
    have hpl : (Lib.byteCells pre).length ≤ 100000 := by simp [Lib.byteCells]; omega
    have HI := Lib.hid (show ∀ (ki : Int) (w : World), ki = ((k + 1 : Nat) : Int) → Lib.IsBuilderF 169 5 B b (Lib.byteCells (pre ++ [94])) w → B ≤ w.heap.size → Below B w0 w → Calls Tryz.prog 140 #[.pointer (some ⟨b, 0, none⟩), .slice (some ad) n cp, .int .i64 ki] w fun e w' => e = .returned (.int .i64 ((k + 1 + t.length : Nat) : Int)) ∧ Lib.IsBuilderF 169 5 B b (Lib.byteCells ((pre ++ [94]) ++ u)) w' ∧ Below B w w' from
      fun ki w e h1 h2 h3 => by subst e; exact ih (k + 1) r (pre ++ [94]) w hf1 h1 h2 h3 (by simp; omega))
    clear hf hB hb0 hk ih hf1
    go_enter Tryz.func140, Tryz.ntmps140
    go_wp2_with fail
    refine (Tryz.Builder_WriteByte_k B b (Lib.byteCells pre) 94 w HB.out (by omega) hBw).mono ?_
    rintro e w1 ⟨rfl, hf1, hb1, _⟩
    have F1 := Lib.hid (show Lib.IsBuilderF 169 5 B b (Lib.byteCells (pre ++ [94])) w1 by rw [← cells_app]; exact Or.inr hf1); have E1 := Lib.hid hb1; have z1 := hb1.size
    clear hf1 hb1
    go_wp2_with fail
    refine (HI.out _ w1 (by omega) F1.out (by omega) (HB0.out.trans E1.out)).mono ?_
    rintro e w2 ⟨rfl, hf2, hb2⟩
    have F2 := Lib.hid hf2; have E2 := Lib.hid (E1.out.trans hb2)
    clear hf2 hb2
    go_wp2_with fail
    go_ret
    refine ⟨?_, ?_, E2.out⟩
    · exact congrArg (fun z : Int => Ending.returned (Value.int .i64 z)) (show (k : Int) + 1 + (t.length : Int) = ((k + (t.length + 1) : Nat) : Int) by omega)
    · rw [show pre ++ 94 :: u = (pre ++ [94]) ++ u by simp]; exact F2.out
  | @app a c u v _ _ ih1 ih2 =>
    intro k r pre w hf hB hBw hb0 hl
    have hk : f[k]? = some (2, 0) := by
      have := congrArg (fun l => l[0]?) hf
      simpa [List.getElem?_drop] using this
    have hf1 : f.drop (k + 1) = a ++ (c ++ r) := by
      have h9 := drop_at hk
      rw [hf] at h9; injection h9 with _ h9; rw [← h9]; exact List.append_assoc a c r
    obtain ⟨k2, hk2⟩ : ∃ k2, k + 1 + a.length = k2 := ⟨_, rfl⟩
    have hf2 : f.drop k2 = c ++ r := by rw [← hk2, ← List.drop_drop, hf1, List.drop_left]
    have hkn : k < n := by have h9 := (HR.out w hb0).len; have := (List.getElem?_eq_some_iff.1 hk).1; omega
    have hfl : f.length = n := (HR.out w hb0).len
    have hcl : k2 + c.length ≤ n := by
      have := congrArg List.length hf2
      rw [List.length_drop, List.length_append, hfl] at this
      have h1 := congrArg List.length hf1
      rw [List.length_drop, List.length_append, List.length_append, hfl] at h1
      omega
    obtain ⟨ad, x, rfl, _, hx, hc0, hc1⟩ := (HR.out w hb0).at_ hkn
    rw [hk] at hx; injection hx with hx; subst hx
    simp only at hc0 hc1
    simp only [List.length_cons, List.length_append, List.length_nil] at hl
    have HB := Lib.hid hB; have HB0 := Lib.hid hb0; have HL := Lib.hid hl; have HK2 := Lib.hid hk2
    have hpl : (Lib.byteCells pre).length ≤ 100000 := by simp [Lib.byteCells]; omega
    have hpl2 : (Lib.byteCells ((pre ++ [40]) ++ u)).length ≤ 100010 := by simp [Lib.byteCells]; omega
    have hpl3 : (Lib.byteCells ((((pre ++ [40]) ++ u) ++ [32]) ++ v)).length ≤ 100010 := by simp [Lib.byteCells]; omega
    have HI1 := Lib.hid (show ∀ (ki : Int) (w : World), ki = ((k + 1 : Nat) : Int) → Lib.IsBuilderF 169 5 B b (Lib.byteCells (pre ++ [40])) w → B ≤ w.heap.size → Below B w0 w → Calls Tryz.prog 140 #[.pointer (some ⟨b, 0, none⟩), .slice (some ad) n cp, .int .i64 ki] w fun e w' => e = .returned (.int .i64 (k2 : Int)) ∧ Lib.IsBuilderF 169 5 B b (Lib.byteCells ((pre ++ [40]) ++ u)) w' ∧ Below B w w' from
      fun ki w e h1 h2 h3 => by subst e; rw [← hk2]; exact ih1 (k + 1) (c ++ r) (pre ++ [40]) w hf1 h1 h2 h3 (by simp; omega))
    have HI2 := Lib.hid (show ∀ (w : World), Lib.IsBuilderF 169 5 B b (Lib.byteCells (((pre ++ [40]) ++ u) ++ [32])) w → B ≤ w.heap.size → Below B w0 w → Calls Tryz.prog 140 #[.pointer (some ⟨b, 0, none⟩), .slice (some ad) n cp, .int .i64 (k2 : Int)] w fun e w' => e = .returned (.int .i64 ((k2 + c.length : Nat) : Int)) ∧ Lib.IsBuilderF 169 5 B b (Lib.byteCells ((((pre ++ [40]) ++ u) ++ [32]) ++ v)) w' ∧ Below B w w' from
      fun w h1 h2 h3 => ih2 k2 r (((pre ++ [40]) ++ u) ++ [32]) w hf2 h1 h2 h3 (by simp; omega))
    clear hf hB hb0 hk ih1 ih2 hf1 hf2 hk2 hfl
    go_enter Tryz.func140, Tryz.ntmps140
    go_wp2_with fail
    refine (Tryz.Builder_WriteByte_k B b (Lib.byteCells pre) 40 w HB.out (by omega) hBw).mono ?_
    rintro e w1 ⟨rfl, hf1, hb1, _⟩
    have F1 := Lib.hid (show Lib.IsBuilderF 169 5 B b (Lib.byteCells (pre ++ [40])) w1 by rw [← cells_app]; exact Or.inr hf1); have E1 := Lib.hid hb1; have z1 := hb1.size
    clear hf1 hb1
    go_wp2_with fail
    refine (HI1.out _ w1 (by omega) F1.out (by omega) (HB0.out.trans E1.out)).mono ?_
    rintro e w2 ⟨rfl, hf2, hb2⟩
    have F2 := Lib.hid hf2; have E2 := Lib.hid (E1.out.trans hb2); have z2 := hb2.size
    clear hf2 hb2
    go_wp2_with fail
    refine (Tryz.Builder_WriteByte_k B b (Lib.byteCells ((pre ++ [40]) ++ u)) 32 w2 F2.out (by omega) (by omega)).mono ?_
    rintro e w3 ⟨rfl, hf3, hb3, _⟩
    have F3 := Lib.hid (show Lib.IsBuilderF 169 5 B b (Lib.byteCells (((pre ++ [40]) ++ u) ++ [32])) w3 by rw [← cells_app]; exact Or.inr hf3); have E3 := Lib.hid (E2.out.trans hb3); have z3 := hb3.size
    clear hf3 hb3
    go_wp2_with fail
    refine (HI2.out w3 F3.out (by omega) (HB0.out.trans E3.out)).mono ?_
    rintro e w4 ⟨rfl, hf4, hb4⟩
    have F4 := Lib.hid hf4; have E4 := Lib.hid (E3.out.trans hb4); have z4 := hb4.size
    clear hf4 hb4
    go_wp2_with fail
    refine (Tryz.Builder_WriteByte_k B b (Lib.byteCells ((((pre ++ [40]) ++ u) ++ [32]) ++ v)) 41 w4 F4.out (by omega) (by omega)).mono ?_
    rintro e w5 ⟨rfl, hf5, hb5, _⟩
    have F5 := Lib.hid (show Lib.IsBuilderF 169 5 B b (Lib.byteCells (((((pre ++ [40]) ++ u) ++ [32]) ++ v) ++ [41])) w5 by rw [← cells_app]; exact Or.inr hf5); have E5 := Lib.hid (E4.out.trans hb5)
    clear hf5 hb5
    go_wp2_with fail
    go_ret
    refine ⟨?_, ?_, E5.out⟩
    · exact congrArg (fun z : Int => Ending.returned (Value.int .i64 z)) (show (k2 : Int) + (c.length : Int) = ((k + ((a ++ c).length + 1) : Nat) : Int) by rw [List.length_append]; have := HK2.out; omega)
    · rw [show pre ++ 40 :: (u ++ 32 :: (v ++ [41])) = ((((pre ++ [40]) ++ u) ++ [32]) ++ v) ++ [41] by simp]; exact F5.out
end Go.Proofs.YtebjpmmgdkepjaaGreatDoor
/-
  Functions as terms: the program's text of a whole term.
-/
namespace Go.Proofs.YtebjpmmgdkepjaaGreatDoor
open Go.RowKit

theorem tv0 : TxT [(0, 0)] [48] := by have h := TxT.var (i := 0) (by decide) (by decide); rwa [show Lib.itoa 0 = [48] by decide +kernel] at h
theorem tv1 : TxT [(0, 1)] [49] := by have h := TxT.var (i := 1) (by decide) (by decide); rwa [show Lib.itoa 1 = [49] by decide +kernel] at h
theorem tv2 : TxT [(0, 2)] [50] := by have h := TxT.var (i := 2) (by decide) (by decide); rwa [show Lib.itoa 2 = [50] by decide +kernel] at h
theorem tv3 : TxT [(0, 3)] [51] := by have h := TxT.var (i := 3) (by decide) (by decide); rwa [show Lib.itoa 3 = [51] by decide +kernel] at h
theorem tx_suc : TxT sucLm sucTx := .abs (.abs (.abs (.app tv1 (.app (a := [(2, 0), (0, 2), (0, 1)]) (.app tv2 tv1) tv0))))
theorem tx_fal : TxT falLm falTx := .abs (.abs tv0)
set_option maxHeartbeats 1000000 in
set_option maxRecDepth 100000 in
theorem LamText_c (A : Option Addr) (n cp : Nat) (t : LT) (u : List UInt8) (w : World) (h : Rd2 w A n t) (hv : validL t = true) (hT : Tab w) (htx : TxT t u) (hu : u.length ≤ 90000) :
    Calls Tryz.prog 99 #[.slice A n cp] w fun e w' => e = .returned (.string (bs u)) ∧ Below w.heap.size w w' := by
  have hl := h.len
  obtain ⟨_, hn1, hn4⟩ := validL_end hv
  rw [hl] at hn1 hn4
  have HVL := Lib.hid (validLam_c A n cp t true w h (by omega) hv)
  have H := Lib.hid h; have HTT := Lib.hid hT; have HTX := Lib.hid htx
  clear h hv hT htx
  go_enter Tryz.func99, Tryz.ntmps99
  go_wp2_with fail
  refine HVL.out.mono ?_
  rintro e w1 ⟨rfl, hb1⟩
  have B1 := Lib.hid hb1; have hz1 := hb1.size
  clear hb1
  obtain ⟨wb, hwb⟩ : ∃ wb, w1.alloc (.cells #[.pointer none, .slice none 0 0] 169) = wb := ⟨_, rfl⟩
  have EB := Lib.hid (show Below w1.heap.size w1 wb by rw [← hwb]; exact below_size.alloc (Nat.le_refl _) _)
  have BF := Lib.hid (show Lib.IsBuilderF 169 5 w1.heap.size w1.heap.size (Lib.byteCells []) wb by rw [← hwb]; exact Lib.IsBuilderF.of (Lib.fresh_isBuilder _ _ w1))
  have hzb := EB.out.size
  have HC := Lib.hid (show ∀ ki : Int, ki = ((0 : Nat) : Int) → Calls Tryz.prog 140 #[.pointer (some ⟨w1.heap.size, 0, none⟩), .slice A n cp, .int .i64 ki] wb fun e w' => e = .returned (.int .i64 ((0 + t.length : Nat) : Int)) ∧ Lib.IsBuilderF 169 5 w1.heap.size w1.heap.size (Lib.byteCells ([] ++ u)) w' ∧ Below w1.heap.size wb w' from fun ki hk => by
    subst hk
    exact lamText_c A n cp t w1.heap.size w1.heap.size w1 (by omega) (fun w' hb => H.out.below (B1.out.trans (hb.mono hz1))) (fun w' hb => HTT.out.below (B1.out.trans (hb.mono hz1))) HTX.out 0 [] [] wb (by simp) BF.out hzb EB.out (by simp; omega))
  go_wp2_with fail
  refine (HC.out _ rfl).mono ?_
  rintro e w2 ⟨rfl, hf2, hb2⟩
  have F2 := Lib.hid hf2; have E2 := Lib.hid (EB.out.trans hb2); have hz2 := hb2.size
  clear hf2 hb2 hwb
  go_wp2_with fail
  refine (Tryz.Builder_String_any_k w1.heap.size w1.heap.size u w2 F2.out (by omega)).mono ?_
  rintro e w3 ⟨rfl, _, hb3, _⟩
  have E3 := Lib.hid (B1.out.trans ((E2.out.trans hb3).mono hz1))
  clear hb3
  go_wp2_with fail
  go_ret
  exact ⟨rfl, E3.out⟩
end Go.Proofs.YtebjpmmgdkepjaaGreatDoor
/-
  Contracts of chapter 11 (recursive functions): the reference's text of a function.
-/
namespace Go.Proofs.YtebjpmmgdkepjaaGreatDoor
open Go.RowKit
open FTr

theorem join44_len {b : Nat} : ∀ {L : List (List UInt8)}, (∀ y ∈ L, y.length ≤ b) → (Lib.join L [44]).length ≤ L.length * (b + 1)
  | [], _ => by simp [Lib.join]
  | y :: L, h => by
    have h1 := h y (by simp)
    have h2 := join44_len fun z hz => h z (List.mem_cons_of_mem _ hz)
    rw [join_cons44, List.length_append, List.length_cons, Nat.succ_mul]
    split
    · simp; omega
    · rw [List.length_cons]; omega
theorem part_pl {w : World} {ad : Addr} {n k i : Nat} {f : List Nd3} {x : Nd3} {ts : List FTr} {t : FTr} {r : List Nd3} (h : Rd3 w (some ad) n f) (hf : f.drop k = flat (mk x ts) ++ r) (ht : ts[i]? = some t) :
    ∃ (p : Nat) (r' : List Nd3), p < n ∧ (plT (k + 1) ts)[i]? = some p ∧ f.drop p = flat t ++ r' := by
  obtain ⟨r', hr'⟩ := part_at hf ht
  have hl := h.len
  have hp : k + 1 + (flats (ts.take i)).length < n := by
    have := congrArg List.length hr'
    rw [List.length_drop, List.length_append, hl] at this
    have := flat_pos t
    omega
  exact ⟨_, r', hp, plT_at ht, hr'⟩
theorem bs1 (a : UInt8) : (⟨#[a]⟩ : ByteArray) = bs [a] := rfl
theorem bs2 (a b : UInt8) : (⟨#[a, b]⟩ : ByteArray) = bs [a, b] := rfl
end Go.Proofs.YtebjpmmgdkepjaaGreatDoor
/-
  Reading functions: the reference's digits and bytes; append of functions; bounds of the reference's reader.
-/
namespace Go.Proofs.YtebjpmmgdkepjaaGreatDoor
open Go.RowKit
open FTr

theorem byS_lt {s : List UInt8} {k : Nat} {b : UInt8} (h : byS s k b = true) : k < s.length := (List.getElem?_eq_some_iff.1 (of_decide_eq_true h)).1
/-- bounds of what the reference's reader gives -/
structure PzBd (s : List UInt8) (B k : Nat) (r : RdF) : Prop where
  len : r.1.length ≤ 61 + B
  pos : r.2.2 = true → r.1 ≠ []
  hd : -(B : Int) - 9 ≤ hdA r.1 ∧ hdA r.1 ≤ 9
  next : r.2.1 ≤ max k (s.length + 3)
theorem PzBd.no {s : List UInt8} {B k : Nat} : PzBd s B k ([], k, false) := ⟨by simp, (fun h => by cases h), by simp [hdA]; omega, by simp only; omega⟩
structure PlBd (s : List UInt8) (B : Nat) (F many : Nat) (all : List Nd3) (a : Int) (m nx : Nat) : Prop where
  len : all.length ≤ 60
  hd : -(B : Int) - 9 ≤ a ∧ a ≤ 9
  many : m ≤ many + F
  next : nx ≤ s.length + 3
theorem pzL_bd {s : List UInt8} {g : Nat → RdF} {isR : Bool} {B : Nat} (hg : ∀ k, PzBd s B k (g k)) : ∀ (F : Nat) (all : List Nd3) (many next : Nat) (l : List Nd3) (a : Int) (m nx : Nat), next < s.length → pzL s g isR F all many next = some (l, a, m, nx) → PlBd s B F many l a m nx
  | 0, _, _, _, _, _, _, _, _, h => by rw [pzL] at h; cases h
  | F + 1, all, many, next, l, a, m, nx, hn, h => by
    rw [pzL] at h
    have hb := hg (next + 1)
    have h3 := hb.next
    split at h
    · cases h
    · rename_i hc
      split at h
      · simp only [Option.some.injEq, Prod.mk.injEq] at h
        obtain ⟨rfl, rfl, rfl, rfl⟩ := h
        exact ⟨by rw [List.length_append]; omega, hb.hd, by omega, by omega⟩
      · rename_i hd
        have h4 : byS s (g (next + 1)).2.1 44 = true := by cases hq : byS s (g (next + 1)).2.1 44; exact absurd (.inl hq) hd; rfl
        have := pzL_bd hg F _ _ _ l a m nx (byS_lt h4) h
        exact ⟨this.len, this.hd, by have := this.many; omega, this.next⟩
theorem pzT_bd {s : List UInt8} {g : Nat → RdF} {B k : Nat} {isR : Bool} (hg : ∀ k, PzBd s B k (g k)) : PzBd s (B + 1) k (pzT s g k isR) := by
  unfold pzT
  split
  · split
    · rename_i h1 h2
      cases hl : pzL s g isR 61 (g (k + 2)).1 0 (g (k + 2)).2.1 with
      | none => exact PzBd.no
      | some r =>
        obtain ⟨l, a, m, nx⟩ := r
        have hb := pzL_bd hg _ _ _ _ _ _ _ _ (byS_lt h2.2) hl
        rw [pzH]
        split
        · rename_i h3
          have h4 := byS_lt h3
          have := hb.len; have := hb.hd
          cases isR
          · exact ⟨by simp only [List.length_cons]; omega, (fun _ => by simp), by rw [if_neg (by simp), hdA_cons]; simp only; omega, by simp only; omega⟩
          · exact ⟨by simp only [List.length_cons]; omega, (fun _ => by simp), by rw [if_pos rfl, hdA_cons]; simp only; omega, by simp only; omega⟩
        · exact PzBd.no
    · exact PzBd.no
  · exact PzBd.no
theorem pzM_bd {s : List UInt8} {g : Nat → RdF} {B k : Nat} (hg : ∀ k, PzBd s B k (g k)) : PzBd s (B + 1) k (pzM s g k) := by
  unfold pzM
  split
  · split
    · rename_i h1 h2
      have h4 := byS_lt h2.2
      have := (hg (k + 2)).len; have := (hg (k + 2)).hd
      exact ⟨by simp only [List.length_cons]; omega, (fun _ => by simp), by rw [hdA_cons]; simp only; omega, by simp only; omega⟩
    · exact PzBd.no
  · exact PzBd.no
theorem dgS_bd (s : List UInt8) (k : Nat) : -1 ≤ dgS s k ∧ dgS s k ≤ 9 := by
  unfold dgS
  split
  · omega
  · split <;> omega
theorem pzE_bd (s : List UInt8) : ∀ (d k : Nat), PzBd s d k (pzE s d k)
  | 0, k => PzBd.no
  | d + 1, k => by
    have ih := pzE_bd s d
    cases hs : s[k]? with
    | none => rw [pzE_none (.inl hs)]; exact PzBd.no
    | some c =>
      have hk := (List.getElem?_eq_some_iff.1 hs).1
      have h1 := dgS_bd s (k + 1)
      rw [pzE_some hs]
      split
      · exact ⟨by simp; omega, (fun _ => by simp), by rw [hdA_cons]; simp only; omega, by simp only; omega⟩
      split
      · exact ⟨by simp; omega, (fun _ => by simp), by rw [hdA_cons]; simp only; omega, by simp only; omega⟩
      split
      · exact ⟨by simp; omega, (fun _ => by simp), by rw [hdA_cons]; simp only; omega, by simp only; omega⟩
      split
      · exact pzM_bd ih
      split
      · exact pzT_bd ih
      split
      · exact pzT_bd ih
      · exact PzBd.no

/-! ### append of functions -/
theorem one_triples (xs : List Nd3) : ∀ u ∈ xs.flatMap enc3, u.oneCell' = true := by
  intro u hu
  obtain ⟨y, _, hy⟩ := List.mem_flatMap.1 hu
  simp only [enc3, List.mem_cons, List.not_mem_nil, or_false] at hy
  rcases hy with rfl | rfl | rfl <;> rfl
theorem Rd3.none0 {w : World} {A : Option Addr} : Rd3 w A 0 [] := ⟨rfl, fun h => absurd h (by omega)⟩
theorem info_pFunc : (Tryz.prog.info? 77).map (fun i => (i.zero, i.size, i.bytes)) = some (some (.agg #[.int .i64 0, .int .i64 0, .int .i64 0]), 3, 24) := by kernel_rfl
theorem wp_appFunc {ops : Array Oper} {rest : List Oper} {o : Oper} {a : Act} {w : World} {Q : Exit → Act → World → Prop} (hgd : o.guard = none) (s x : Operand)
    (ho : o.op = .call { callee := .builtin .append, args := #[s, x], argTypes := #[45, 45] })
    (B : Nat) (A : Option Addr) (n c : Nat) (vs : List Value) (hs : a.eval s = .slice A n c) (hown : Own w B 77 3 A n c vs)
    (X : Option Addr) (m c' : Nat) (xs : List Nd3) (hx : a.eval x = .slice X m c') (hX : Rd3 w X m xs) (hlen : n + m ≤ 1000000000) (hB : B ≤ w.heap.size)
    (h : ∀ A' cap w', Own w' B 77 3 A' (n + m) cap (vs ++ xs.flatMap enc3) → Below B w w' → (∀ b, b < w.heap.size → (∀ ad', A = some ad' → ad'.block ≠ b) → w'.heap[b]? = w.heap[b]?) → (A' = A ∨ A' = some ⟨w.heap.size, 0, none⟩) → w.heap.size ≤ w'.heap.size →
      wpList Tryz.prog ops Q rest (a.put o.dst (.slice A' (n + m) cap)) w') : wpList Tryz.prog ops Q (o :: rest) a w := by
  by_cases h0 : 0 < m
  · obtain ⟨hl, hc⟩ := hX
    obtain ⟨ad, rfl, hab, hcs⟩ := hc (by omega)
    refine wp_app hgd s x 45 77 (.agg #[.int .i64 0, .int .i64 0, .int .i64 0]) 3 24 ho Tryz.underlying45 info_pFunc rfl (by omega) B A n c vs hs hown ad m c' (xs.flatMap enc3) hx h0 hl hcs (one_triples xs) (by omega) (by omega) hB ?_
    intro g' cap w2 own2 hb2 hk2 hg2 hz2
    exact h _ cap w2 own2 hb2 hk2 (hg2.elim (fun e => .inl e.symm) (fun e => .inr (by rw [e]))) hz2
  · obtain rfl : m = 0 := by omega
    have hws : xs = [] := List.length_eq_zero_iff.1 hX.len
    subst hws
    refine wp_app0 hgd s x 45 77 (.agg #[.int .i64 0, .int .i64 0, .int .i64 0]) 3 24 ho Tryz.underlying45 info_pFunc A n c hs hown.cap X c' hx ?_
    exact h A c w (by simpa using hown) ⟨rfl, rfl, rfl, Nat.le_refl _, fun _ _ => rfl⟩ (fun _ _ _ => rfl) (.inl rfl) (Nat.le_refl _)

/-! ### digits and bytes -/
end Go.Proofs.YtebjpmmgdkepjaaGreatDoor
/-
  Reading functions: the reference's reader of functions.
-/
namespace Go.Proofs.YtebjpmmgdkepjaaGreatDoor
open Go.RowKit
open FTr

/-- a function that was read, the offset behind it, whether it is one -/
def PzOut (r : RdF) (w : World) (e : Ending) (w' : World) : Prop := ∃ A n c, e = .returned (.tuple #[.slice A n c, .int .i64 (r.2.1 : Int), .bool r.2.2]) ∧ Wr w' w.heap.size w'.heap.size A (n * 3) (r.1.flatMap enc3) ∧ n ≤ c ∧ Below w.heap.size w w'
theorem PzOut.bad {w w' : World} {k : Nat} (h : Below w.heap.size w w') : PzOut ([], k, false) w (.returned (.tuple #[.slice none 0 0, .int .i64 (k : Int), .bool false])) w' := ⟨none, 0, 0, rfl, Wr.nil, Nat.le_refl _, h⟩
theorem PzOut.leaf {w : World} {a b c z : Int} {k : Nat} {q : Bool} {T : TypeId} (hz : z = (k : Int)) : PzOut ([(a, b, c)], k, q) w (.returned (.tuple #[.slice (some ⟨w.heap.size, 0, none⟩) 1 1, .int .i64 z, .bool q])) (w.alloc (.cells #[i64 a, i64 b, i64 c] T)) := by
  subst hz
  exact ⟨_, 1, 1, rfl, (Blk.new w T #[i64 a, i64 b, i64 c]).wr (Nat.le_refl _) (by simp) rfl (by simp), Nat.le_refl _, below_size.alloc (Nat.le_refl _) _⟩
theorem pzT_no0 {s : List UInt8} {g : Nat → RdF} {k : Nat} {isR : Bool} (h : byS s (k + 1) 40 = false) : pzT s g k isR = ([], k, false) := by rw [pzT, h]; rfl
theorem pzT_no1 {s : List UInt8} {g : Nat → RdF} {k : Nat} {isR : Bool} {l : List Nd3} {q : Nat} {ok : Bool} (hg : g (k + 2) = (l, q, ok)) (h : ok = false ∨ byS s q 59 = false) : pzT s g k isR = ([], k, false) := by
  rw [pzT, hg]
  split
  · rw [if_neg]
    rintro ⟨h1, h2⟩
    simp only at h1 h2
    rcases h with h | h
    · rw [h] at h1; cases h1
    · rw [h] at h2; cases h2
  · rfl
theorem pzT_go {s : List UInt8} {g : Nat → RdF} {k : Nat} {isR : Bool} {l : List Nd3} {q : Nat} (h0 : byS s (k + 1) 40 = true) (hg : g (k + 2) = (l, q, true)) (h : byS s q 59 = true) : pzT s g k isR = pzH s isR k (pzL s g isR 61 l 0 q) := by
  rw [pzT, if_pos h0, hg, if_pos ⟨rfl, h⟩]
theorem pzL_no {s : List UInt8} {g : Nat → RdF} {isR : Bool} {F many next : Nat} {all f : List Nd3} {e : Nat} {ok : Bool} (hg : g (next + 1) = (f, e, ok)) (h : ok = false ∨ 60 < all.length + f.length) : pzL s g isR (F + 1) all many next = none := by
  rw [pzL, hg, if_pos h]
theorem pzL_end {s : List UInt8} {g : Nat → RdF} {isR : Bool} {F many next : Nat} {all f : List Nd3} {e : Nat} (hg : g (next + 1) = (f, e, true)) (h : ¬ 60 < all.length + f.length) (h2 : byS s e 44 = false ∨ isR = true) : pzL s g isR (F + 1) all many next = some (all ++ f, hdA f, many + 1, e) := by
  rw [pzL, hg, if_neg (by rintro (h' | h'); · cases h'
                          · exact h h'), if_pos h2]
theorem pzL_more {s : List UInt8} {g : Nat → RdF} {isR : Bool} {F many next : Nat} {all f : List Nd3} {e : Nat} (hg : g (next + 1) = (f, e, true)) (h : ¬ 60 < all.length + f.length) (h2 : byS s e 44 = true) (h3 : isR = false) : pzL s g isR (F + 1) all many next = pzL s g isR F (all ++ f) (many + 1) e := by
  rw [pzL, hg, if_neg (by rintro (h' | h'); · cases h'
                          · exact h h'), if_neg (by rintro (h' | h'); · simp only at h'; rw [h2] at h'; cases h'
                                                    · rw [h3] at h'; cases h')]
/-- where a function begins, its arity -/
theorem hd_cell {w : World} {ad : Addr} {n : Nat} {f : List Nd3} (h : Rd3 w (some ad) n f) (hn : 0 < n) : w.cell? ⟨ad.block, ad.off + 1, none⟩ = some (i64 (hdA f)) := by
  obtain ⟨ad', x, e, _, hx, _, hc, _⟩ := h.at_ hn
  injection e with e; subst e
  rw [Nat.zero_mul, addrZf] at hc
  rw [hc]
  cases f with
  | nil => simp at hx
  | cons y f => simp only [List.getElem?_cons_zero, Option.some.injEq] at hx; subst hx; rfl
end Go.Proofs.YtebjpmmgdkepjaaGreatDoor
/-
  Reading functions: the reference's l11Parse and l11Read.
-/
namespace Go.Proofs.YtebjpmmgdkepjaaGreatDoor
open Go.RowKit
open FTr

theorem pzM_no0 {s : List UInt8} {g : Nat → RdF} {k : Nat} (h : byS s (k + 1) 40 = false) : pzM s g k = ([], k, false) := by rw [pzM, h]; rfl
theorem pzM_no1 {s : List UInt8} {g : Nat → RdF} {k : Nat} {l : List Nd3} {q : Nat} {ok : Bool} (hg : g (k + 2) = (l, q, ok)) (h : ok = false ∨ byS s q 41 = false) : pzM s g k = ([], k, false) := by
  rw [pzM, hg]
  split
  · rw [if_neg]
    rintro ⟨h1, h2⟩
    simp only at h1 h2
    rcases h with h | h
    · rw [h] at h1; cases h1
    · rw [h] at h2; cases h2
  · rfl
theorem pzM_yes {s : List UInt8} {g : Nat → RdF} {k : Nat} {l : List Nd3} {q : Nat} (h0 : byS s (k + 1) 40 = true) (hg : g (k + 2) = (l, q, true)) (h : byS s q 41 = true) : pzM s g k = ((5, hdA l - 1, 0) :: l, q + 1, true) := by
  rw [pzM, if_pos h0, hg, if_pos ⟨rfl, h⟩]
end Go.Proofs.YtebjpmmgdkepjaaGreatDoor
/-
  Reading functions: the reference's ReadFunc.
-/
namespace Go.Proofs.YtebjpmmgdkepjaaGreatDoor
open Go.RowKit
open FTr

/-- a function of the call's own, and a Bool -/
def FnOutB (R : List Nd3 × Bool) (w : World) (e : Ending) (w' : World) : Prop := ∃ A N cap, e = .returned (.tuple #[.slice A N cap, .bool R.2]) ∧ Wr w' w.heap.size w'.heap.size A (N * 3) (R.1.flatMap enc3) ∧ N ≤ 1000000 ∧ Below w.heap.size w w'
theorem FnOutB.bad {w w' : World} (h : Below w.heap.size w w') : FnOutB ([], false) w (.returned (.tuple #[.slice none 0 0, .bool false])) w' := ⟨none, 0, 0, rfl, Wr.nil, by omega, h⟩
noncomputable def rfS (s : List UInt8) : List Nd3 × Bool := match sfR s with
  | some f => (f, true)
  | none => ([], false)
theorem rfS_bad {s : List UInt8} (h : (pzE s 60 0).2.2 = false ∨ (pzE s 60 0).2.1 ≠ s.length ∨ validF (pzE s 60 0).1 = false ∨ txF (pzE s 60 0).1 ≠ s) : rfS s = ([], false) := by rw [rfS, sfR, if_pos h]
theorem rfS_good {s : List UInt8} (h : (pzE s 60 0).2.2 = true) (h1 : (pzE s 60 0).2.1 = s.length) (h2 : validF (pzE s 60 0).1 = true) (h3 : txF (pzE s 60 0).1 = s) : rfS s = ((pzE s 60 0).1, true) := by
  rw [rfS, sfR, if_neg]
  rintro (g | g | g | g)
  · rw [h] at g; cases g
  · exact g h1
  · rw [h2] at g; cases g
  · exact g h3
theorem bs_toListF (l : List UInt8) : (bs l).toList = l := ByteArray.toList_mk l
end Go.Proofs.YtebjpmmgdkepjaaGreatDoor
