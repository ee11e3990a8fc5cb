/-
  The standard functions by their names: both sides.
-/
import Derived.Test.YtnoapoaajidncaaDoorC11p
namespace Go.Proofs.YtnoapoaajidncaaDoor
open Go.RowKit
open FTr

def nmP : List UInt8 := [112, 114, 101, 100]
def nmA : List UInt8 := [97, 100, 100]
def nmX : List UInt8 := [109, 117, 108, 116, 105, 112, 108, 121]
def nmM : List UInt8 := [109, 105, 110, 117, 115]
def nmS : List UInt8 := [115, 105, 103, 110]
def nmN : List UInt8 := [110, 111, 116]
def nmD : List UInt8 := [100, 105, 102, 102, 101, 114]
def nmH : List UInt8 := [104, 97, 108, 118, 101]
def tPred : List UInt8 := [82, 40, 90, 48, 59, 80, 50, 46, 48, 41]
def tAdd : List UInt8 := [82, 40, 80, 49, 46, 48, 59, 67, 40, 83, 59, 80, 51, 46, 49, 41, 41]
def tMinus : List UInt8 := [67, 40, 82, 40, 80, 49, 46, 48, 59, 67, 40] ++ tPred ++ [59, 80, 51, 46, 49, 41, 41, 59, 80, 50, 46, 49, 44, 80, 50, 46, 48, 41]
def tMult : List UInt8 := [82, 40, 90, 49, 59, 67, 40] ++ tAdd ++ [59, 80, 51, 46, 50, 44, 80, 51, 46, 49, 41, 41]
def tSign : List UInt8 := [82, 40, 90, 48, 59, 67, 40, 83, 59, 90, 50, 41, 41]
def tNot : List UInt8 := [82, 40, 67, 40, 83, 59, 90, 48, 41, 59, 90, 50, 41]
def tDiff : List UInt8 := [67, 40] ++ tAdd ++ [59] ++ tMinus ++ [44, 67, 40] ++ tMinus ++ [59, 80, 50, 46, 49, 44, 80, 50, 46, 48, 41, 41]
def tHalve : List UInt8 := [77, 40, 67, 40] ++ tMinus ++ [59, 80, 50, 46, 49, 44, 67, 40] ++ tAdd ++ [59, 80, 50, 46, 48, 44, 80, 50, 46, 48, 41, 41, 41]
/-- names and texts -/
def fnL : List (List UInt8 × List UInt8) := [(nmP, tPred), (nmA, tAdd), (nmX, tMult), (nmM, tMinus), (nmS, tSign), (nmN, tNot), (nmD, tDiff), (nmH, tHalve)]
def fnF : List (List UInt8 × List UInt8) → List UInt8 → List UInt8
  | [], _ => []
  | e :: l, x => if e.1 = x then e.2 else fnF l x
theorem fnF_drop {x : List UInt8} {k : Nat} {e : List UInt8 × List UInt8} (h : fnL[k]? = some e) : fnF (fnL.drop k) x = if e.1 = x then e.2 else fnF (fnL.drop (k + 1)) x := by rw [drop_at h, fnF]
theorem fnL_at {k : Nat} (h : k < 8) : ∃ e, fnL[k]? = some e := ⟨fnL[k], List.getElem?_eq_getElem h⟩
theorem fn_len {e : List UInt8 × List UInt8} (he : e ∈ fnL) : e.2.length ≤ 1000 := by
  simp only [fnL, List.mem_cons, List.not_mem_nil, or_false] at he
  rcases he with rfl | rfl | rfl | rfl | rfl | rfl | rfl | rfl <;> decide
theorem fnF_len {x : List UInt8} : (fnF fnL x).length ≤ 1000 := by
  have : ∀ l : List (List UInt8 × List UInt8), (∀ e ∈ l, e.2.length ≤ 1000) → (fnF l x).length ≤ 1000 := by
    intro l
    induction l with
    | nil => intro _; simp [fnF]
    | cons e l ih =>
      intro h
      rw [fnF]
      split
      · exact h e (by simp)
      · exact ih fun d hd => h d (List.mem_cons_of_mem _ hd)
  exact this _ fun e he => fn_len he
noncomputable def stO (R : List Nd3 × Bool) : List Nd3 × Int := if R.2 = true then (R.1, 0) else ([], 3)
noncomputable def stfR (x : ByteArray) : List Nd3 × Int := stO (rfS (fnF fnL x.data.toList))
theorem rfS_nil : rfS [] = ([], false) := rfI_bad (.inr (.inl (ixF_nil _)))
def FnOut2 (R : List Nd3 × Int) (w : World) (e : Ending) (w' : World) : Prop := ∃ A N cap, e = .returned (.tuple #[.slice A N cap, .int .i64 R.2]) ∧ Wr w' w.heap.size w'.heap.size A (N * 3) (R.1.flatMap enc3) ∧ N ≤ 1000000 ∧ Below w.heap.size w w'
def StOut (t : List UInt8) (w : World) (e : Ending) (w' : World) : Prop := e = .returned (.string (bs t)) ∧ w = w'
set_option maxRecDepth 100000 in
theorem st_tPred (w : World) : Calls Tryd.prog 17 #[.string ⟨#[112, 114, 101, 100]⟩] w (StOut tPred w) := by
  go_enter Tryd.func17, Tryd.ntmps17
  go_wp2_with fail
  go_ret
  exact ⟨rfl, rfl⟩
set_option maxRecDepth 100000 in
theorem st_tAdd (w : World) : Calls Tryd.prog 17 #[.string ⟨#[97, 100, 100]⟩] w (StOut tAdd w) := by
  go_enter Tryd.func17, Tryd.ntmps17
  go_wp2_with fail
  go_ret
  exact ⟨rfl, rfl⟩
set_option maxRecDepth 100000 in
theorem st_tSign (w : World) : Calls Tryd.prog 17 #[.string ⟨#[115, 105, 103, 110]⟩] w (StOut tSign w) := by
  go_enter Tryd.func17, Tryd.ntmps17
  go_wp2_with fail
  go_ret
  exact ⟨rfl, rfl⟩
set_option maxRecDepth 100000 in
theorem st_tNot (w : World) : Calls Tryd.prog 17 #[.string ⟨#[110, 111, 116]⟩] w (StOut tNot w) := by
  go_enter Tryd.func17, Tryd.ntmps17
  go_wp2_with fail
  go_ret
  exact ⟨rfl, rfl⟩
theorem sz_tPred : (bs tPred).size ≤ 100 := by rw [bs_size]; decide
theorem sz_tAdd : (bs tAdd).size ≤ 100 := by rw [bs_size]; decide
theorem sz_tMinus : (bs tMinus).size ≤ 100 := by rw [bs_size]; decide
set_option maxRecDepth 100000 in
theorem st_tMinus (w : World) : Calls Tryd.prog 17 #[.string ⟨#[109, 105, 110, 117, 115]⟩] w (StOut tMinus w) := by
  have HX := Lib.hid (show (⟨#[67, 40, 82, 40, 80, 49, 46, 48, 59, 67, 40]⟩ : ByteArray) ++ bs tPred ++ ⟨#[59, 80, 51, 46, 49, 41, 41, 59, 80, 50, 46, 49, 44, 80, 50, 46, 48, 41]⟩ = bs tMinus by unfold tMinus; rw [← bs_add, ← bs_add]; rfl)
  have l0 := sz_tPred
  have HC := Lib.hid st_tPred
  obtain ⟨B, hB⟩ : ∃ B, bs tPred = B := ⟨_, rfl⟩
  have HC := Lib.hid (show ∀ w, Calls Tryd.prog 17 #[.string ⟨#[112, 114, 101, 100]⟩] w fun e w' => e = .returned (.string B) ∧ w = w' from fun w => by rw [← hB]; exact HC.out w)
  rw [hB] at HX l0
  clear hB
  go_enter Tryd.func17, Tryd.ntmps17
  go_wp2_with (go_at_call 17; refine (HC.out _).mono ?_; rintro e w' ⟨rfl, rfl⟩)
  go_ret
  exact ⟨congrArg (fun z => Ending.returned (.string z)) HX.out, rfl⟩
set_option maxRecDepth 100000 in
theorem st_tMult (w : World) : Calls Tryd.prog 17 #[.string ⟨#[109, 117, 108, 116, 105, 112, 108, 121]⟩] w (StOut tMult w) := by
  have HX := Lib.hid (show (⟨#[82, 40, 90, 49, 59, 67, 40]⟩ : ByteArray) ++ bs tAdd ++ ⟨#[59, 80, 51, 46, 50, 44, 80, 51, 46, 49, 41, 41]⟩ = bs tMult by unfold tMult; rw [← bs_add, ← bs_add]; rfl)
  have l0 := sz_tAdd
  have HC := Lib.hid st_tAdd
  obtain ⟨B, hB⟩ : ∃ B, bs tAdd = B := ⟨_, rfl⟩
  have HC := Lib.hid (show ∀ w, Calls Tryd.prog 17 #[.string ⟨#[97, 100, 100]⟩] w fun e w' => e = .returned (.string B) ∧ w = w' from fun w => by rw [← hB]; exact HC.out w)
  rw [hB] at HX l0
  clear hB
  go_enter Tryd.func17, Tryd.ntmps17
  go_wp2_with (go_at_call 17; refine (HC.out _).mono ?_; rintro e w' ⟨rfl, rfl⟩)
  go_ret
  exact ⟨congrArg (fun z => Ending.returned (.string z)) HX.out, rfl⟩
set_option maxRecDepth 100000 in
theorem st_tDiff (w : World) : Calls Tryd.prog 17 #[.string ⟨#[100, 105, 102, 102, 101, 114]⟩] w (StOut tDiff w) := by
  have HX := Lib.hid (show (⟨#[67, 40]⟩ : ByteArray) ++ bs tAdd ++ ⟨#[59]⟩ ++ bs tMinus ++ ⟨#[44, 67, 40]⟩ ++ bs tMinus ++ ⟨#[59, 80, 50, 46, 49, 44, 80, 50, 46, 48, 41, 41]⟩ = bs tDiff by unfold tDiff; rw [← bs_add, ← bs_add, ← bs_add, ← bs_add, ← bs_add, ← bs_add]; rfl)
  have l0 := sz_tAdd; have l1 := sz_tMinus
  have HC := Lib.hid st_tAdd; have HD := Lib.hid st_tMinus
  obtain ⟨B, hB⟩ : ∃ B, bs tAdd = B := ⟨_, rfl⟩
  obtain ⟨D, hD⟩ : ∃ D, bs tMinus = D := ⟨_, rfl⟩
  have HC := Lib.hid (show ∀ w, Calls Tryd.prog 17 #[.string ⟨#[97, 100, 100]⟩] w fun e w' => e = .returned (.string B) ∧ w = w' from fun w => by rw [← hB]; exact HC.out w)
  have HD := Lib.hid (show ∀ w, Calls Tryd.prog 17 #[.string ⟨#[109, 105, 110, 117, 115]⟩] w fun e w' => e = .returned (.string D) ∧ w = w' from fun w => by rw [← hD]; exact HD.out w)
  rw [hB, hD] at HX
  rw [hB] at l0; rw [hD] at l1
  clear hB hD
  go_enter Tryd.func17, Tryd.ntmps17
  go_wp2_with fail
  refine (HC.out _).mono ?_; rintro e w' ⟨rfl, rfl⟩
  go_wp2_with fail
  refine (HD.out _).mono ?_; rintro e w' ⟨rfl, rfl⟩
  go_wp2_with fail
  refine (HD.out _).mono ?_; rintro e w' ⟨rfl, rfl⟩
  go_wp2_with fail
  go_ret
  exact ⟨congrArg (fun z => Ending.returned (.string z)) HX.out, rfl⟩
set_option maxRecDepth 100000 in
theorem st_tHalve (w : World) : Calls Tryd.prog 17 #[.string ⟨#[104, 97, 108, 118, 101]⟩] w (StOut tHalve w) := by
  have HX := Lib.hid (show (⟨#[77, 40, 67, 40]⟩ : ByteArray) ++ bs tMinus ++ ⟨#[59, 80, 50, 46, 49, 44, 67, 40]⟩ ++ bs tAdd ++ ⟨#[59, 80, 50, 46, 48, 44, 80, 50, 46, 48, 41, 41, 41]⟩ = bs tHalve by unfold tHalve; rw [← bs_add, ← bs_add, ← bs_add, ← bs_add]; rfl)
  have l0 := sz_tAdd; have l1 := sz_tMinus
  have HC := Lib.hid st_tAdd; have HD := Lib.hid st_tMinus
  obtain ⟨B, hB⟩ : ∃ B, bs tAdd = B := ⟨_, rfl⟩
  obtain ⟨D, hD⟩ : ∃ D, bs tMinus = D := ⟨_, rfl⟩
  have HC := Lib.hid (show ∀ w, Calls Tryd.prog 17 #[.string ⟨#[97, 100, 100]⟩] w fun e w' => e = .returned (.string B) ∧ w = w' from fun w => by rw [← hB]; exact HC.out w)
  have HD := Lib.hid (show ∀ w, Calls Tryd.prog 17 #[.string ⟨#[109, 105, 110, 117, 115]⟩] w fun e w' => e = .returned (.string D) ∧ w = w' from fun w => by rw [← hD]; exact HD.out w)
  rw [hB, hD] at HX
  rw [hB] at l0; rw [hD] at l1
  clear hB hD
  go_enter Tryd.func17, Tryd.ntmps17
  go_wp2_with fail
  refine (HD.out _).mono ?_; rintro e w' ⟨rfl, rfl⟩
  go_wp2_with fail
  refine (HC.out _).mono ?_; rintro e w' ⟨rfl, rfl⟩
  go_wp2_with fail
  go_ret
  exact ⟨congrArg (fun z => Ending.returned (.string z)) HX.out, rfl⟩
set_option maxRecDepth 100000 in
theorem standardText_c (x : List UInt8) (w : World) : Calls Tryd.prog 17 #[.string (bs x)] w (StOut (fnF fnL x) w) := by
  by_cases h0 : x = nmP
  · subst h0; exact st_tPred w
  by_cases h1 : x = nmA
  · subst h1; exact st_tAdd w
  by_cases h2 : x = nmX
  · subst h2; exact st_tMult w
  by_cases h3 : x = nmM
  · subst h3; exact st_tMinus w
  by_cases h4 : x = nmS
  · subst h4; exact st_tSign w
  by_cases h5 : x = nmN
  · subst h5; exact st_tNot w
  by_cases h6 : x = nmD
  · subst h6; exact st_tDiff w
  by_cases h7 : x = nmH
  · subst h7; exact st_tHalve w
  have HX := Lib.hid (show fnF fnL x = [] by simp only [fnL, fnF, if_neg (Ne.symm h0), if_neg (Ne.symm h1), if_neg (Ne.symm h2), if_neg (Ne.symm h3), if_neg (Ne.symm h4), if_neg (Ne.symm h5), if_neg (Ne.symm h6), if_neg (Ne.symm h7)])
  have g0 : (x == ([112, 114, 101, 100] : List UInt8)) = false := by rw [beq_eq_false_iff_ne]; exact h0
  have g1 : (x == ([97, 100, 100] : List UInt8)) = false := by rw [beq_eq_false_iff_ne]; exact h1
  have g2 : (x == ([109, 117, 108, 116, 105, 112, 108, 121] : List UInt8)) = false := by rw [beq_eq_false_iff_ne]; exact h2
  have g3 : (x == ([109, 105, 110, 117, 115] : List UInt8)) = false := by rw [beq_eq_false_iff_ne]; exact h3
  have g4 : (x == ([115, 105, 103, 110] : List UInt8)) = false := by rw [beq_eq_false_iff_ne]; exact h4
  have g5 : (x == ([110, 111, 116] : List UInt8)) = false := by rw [beq_eq_false_iff_ne]; exact h5
  have g6 : (x == ([100, 105, 102, 102, 101, 114] : List UInt8)) = false := by rw [beq_eq_false_iff_ne]; exact h6
  have g7 : (x == ([104, 97, 108, 118, 101] : List UInt8)) = false := by rw [beq_eq_false_iff_ne]; exact h7
  have gx := bs_toListF x
  clear h0 h1 h2 h3 h4 h5 h6 h7
  go_enter Tryd.func17, Tryd.ntmps17
  go_wp2_with fail
  go_ret
  rw [HX.out]
  exact ⟨rfl, rfl⟩
def r2 (a b : ByteArray) : Obj := .cells #[.string a, .string b] 9
def x0 : ByteArray := (⟨#[82, 40, 90, 48, 59, 80, 50, 46, 48, 41]⟩ : ByteArray)
theorem x0_eq : x0 = bs tPred := rfl
def x1 : ByteArray := (⟨#[82, 40, 80, 49, 46, 48, 59, 67, 40, 83, 59, 80, 51, 46, 49, 41, 41]⟩ : ByteArray)
theorem x1_eq : x1 = bs tAdd := rfl
def x2 : ByteArray := ((⟨#[82, 40, 90, 49, 59, 67, 40]⟩ : ByteArray) ++ ⟨#[82, 40, 80, 49, 46, 48, 59, 67, 40, 83, 59, 80, 51, 46, 49, 41, 41]⟩ ++ ⟨#[59, 80, 51, 46, 50, 44, 80, 51, 46, 49, 41, 41]⟩)
theorem x2_eq : x2 = bs tMult := by
  rw [x2]; unfold tMult; rw [← bs_add, ← bs_add]; rfl
def x3 : ByteArray := ((⟨#[67, 40, 82, 40, 80, 49, 46, 48, 59, 67, 40]⟩ : ByteArray) ++ ⟨#[82, 40, 90, 48, 59, 80, 50, 46, 48, 41]⟩ ++ ⟨#[59, 80, 51, 46, 49, 41, 41, 59, 80, 50, 46, 49, 44, 80, 50, 46, 48, 41]⟩)
theorem x3_eq : x3 = bs tMinus := by
  rw [x3]; unfold tMinus; rw [← bs_add, ← bs_add]; rfl
def x4 : ByteArray := (⟨#[82, 40, 90, 48, 59, 67, 40, 83, 59, 90, 50, 41, 41]⟩ : ByteArray)
theorem x4_eq : x4 = bs tSign := rfl
def x5 : ByteArray := (⟨#[82, 40, 67, 40, 83, 59, 90, 48, 41, 59, 90, 50, 41]⟩ : ByteArray)
theorem x5_eq : x5 = bs tNot := rfl
def x6 : ByteArray := ((⟨#[67, 40]⟩ : ByteArray) ++ ⟨#[82, 40, 80, 49, 46, 48, 59, 67, 40, 83, 59, 80, 51, 46, 49, 41, 41]⟩ ++ ⟨#[59]⟩ ++ ((⟨#[67, 40, 82, 40, 80, 49, 46, 48, 59, 67, 40]⟩ : ByteArray) ++ ⟨#[82, 40, 90, 48, 59, 80, 50, 46, 48, 41]⟩ ++ ⟨#[59, 80, 51, 46, 49, 41, 41, 59, 80, 50, 46, 49, 44, 80, 50, 46, 48, 41]⟩) ++ ⟨#[44, 67, 40]⟩ ++ ((⟨#[67, 40, 82, 40, 80, 49, 46, 48, 59, 67, 40]⟩ : ByteArray) ++ ⟨#[82, 40, 90, 48, 59, 80, 50, 46, 48, 41]⟩ ++ ⟨#[59, 80, 51, 46, 49, 41, 41, 59, 80, 50, 46, 49, 44, 80, 50, 46, 48, 41]⟩) ++ ⟨#[59, 80, 50, 46, 49, 44, 80, 50, 46, 48, 41, 41]⟩)
theorem x6_eq : x6 = bs tDiff := by
  rw [x6, show ((⟨#[67, 40, 82, 40, 80, 49, 46, 48, 59, 67, 40]⟩ : ByteArray) ++ ⟨#[82, 40, 90, 48, 59, 80, 50, 46, 48, 41]⟩ ++ ⟨#[59, 80, 51, 46, 49, 41, 41, 59, 80, 50, 46, 49, 44, 80, 50, 46, 48, 41]⟩) = bs tMinus from x3_eq]; unfold tDiff; rw [← bs_add, ← bs_add, ← bs_add, ← bs_add, ← bs_add, ← bs_add]; rfl
def x7 : ByteArray := ((⟨#[77, 40, 67, 40]⟩ : ByteArray) ++ ((⟨#[67, 40, 82, 40, 80, 49, 46, 48, 59, 67, 40]⟩ : ByteArray) ++ ⟨#[82, 40, 90, 48, 59, 80, 50, 46, 48, 41]⟩ ++ ⟨#[59, 80, 51, 46, 49, 41, 41, 59, 80, 50, 46, 49, 44, 80, 50, 46, 48, 41]⟩) ++ ⟨#[59, 80, 50, 46, 49, 44, 67, 40]⟩ ++ ⟨#[82, 40, 80, 49, 46, 48, 59, 67, 40, 83, 59, 80, 51, 46, 49, 41, 41]⟩ ++ ⟨#[59, 80, 50, 46, 48, 44, 80, 50, 46, 48, 41, 41, 41]⟩)
theorem x7_eq : x7 = bs tHalve := by
  rw [x7, show ((⟨#[67, 40, 82, 40, 80, 49, 46, 48, 59, 67, 40]⟩ : ByteArray) ++ ⟨#[82, 40, 90, 48, 59, 80, 50, 46, 48, 41]⟩ ++ ⟨#[59, 80, 51, 46, 49, 41, 41, 59, 80, 50, 46, 49, 44, 80, 50, 46, 48, 41]⟩) = bs tMinus from x3_eq]; unfold tHalve; rw [← bs_add, ← bs_add, ← bs_add, ← bs_add]; rfl
def l11W1 (w : World) : World := w.alloc (r2 ⟨#[112, 114, 101, 100]⟩ x0)
def l11W2 (w : World) : World := (l11W1 w).alloc (r2 ⟨#[97, 100, 100]⟩ x1)
def l11W3 (w : World) : World := (l11W2 w).alloc (r2 ⟨#[109, 117, 108, 116, 105, 112, 108, 121]⟩ x2)
def l11W4 (w : World) : World := (l11W3 w).alloc (r2 ⟨#[109, 105, 110, 117, 115]⟩ x3)
def l11W5 (w : World) : World := (l11W4 w).alloc (r2 ⟨#[115, 105, 103, 110]⟩ x4)
def l11W6 (w : World) : World := (l11W5 w).alloc (r2 ⟨#[110, 111, 116]⟩ x5)
def l11W7 (w : World) : World := (l11W6 w).alloc (r2 ⟨#[100, 105, 102, 102, 101, 114]⟩ x6)
def l11W8 (w : World) : World := (l11W7 w).alloc (r2 ⟨#[104, 97, 108, 118, 101]⟩ x7)
def l11W (w : World) : World := (l11W8 w).alloc (.cells #[.slice (some ⟨w.heap.size, 0, none⟩) 2 2, .slice (some ⟨w.heap.size + 1, 0, none⟩) 2 2, .slice (some ⟨w.heap.size + 1 + 1, 0, none⟩) 2 2, .slice (some ⟨w.heap.size + 1 + 1 + 1, 0, none⟩) 2 2, .slice (some ⟨w.heap.size + 1 + 1 + 1 + 1, 0, none⟩) 2 2, .slice (some ⟨w.heap.size + 1 + 1 + 1 + 1 + 1, 0, none⟩) 2 2, .slice (some ⟨w.heap.size + 1 + 1 + 1 + 1 + 1 + 1, 0, none⟩) 2 2, .slice (some ⟨w.heap.size + 1 + 1 + 1 + 1 + 1 + 1 + 1, 0, none⟩) 2 2] 48)
theorem l11W1_sz (w : World) : (l11W1 w).heap.size = w.heap.size + 1 := by rw [l11W1, World.size_alloc]
theorem l11W2_sz (w : World) : (l11W2 w).heap.size = w.heap.size + 2 := by rw [l11W2, World.size_alloc, l11W1_sz]
theorem l11W3_sz (w : World) : (l11W3 w).heap.size = w.heap.size + 3 := by rw [l11W3, World.size_alloc, l11W2_sz]
theorem l11W4_sz (w : World) : (l11W4 w).heap.size = w.heap.size + 4 := by rw [l11W4, World.size_alloc, l11W3_sz]
theorem l11W5_sz (w : World) : (l11W5 w).heap.size = w.heap.size + 5 := by rw [l11W5, World.size_alloc, l11W4_sz]
theorem l11W6_sz (w : World) : (l11W6 w).heap.size = w.heap.size + 6 := by rw [l11W6, World.size_alloc, l11W5_sz]
theorem l11W7_sz (w : World) : (l11W7 w).heap.size = w.heap.size + 7 := by rw [l11W7, World.size_alloc, l11W6_sz]
theorem l11W8_sz (w : World) : (l11W8 w).heap.size = w.heap.size + 8 := by rw [l11W8, World.size_alloc, l11W7_sz]
theorem l11B0 (w : World) : Blk (l11W w) (w.heap.size + 0) 9 #[.string ⟨#[112, 114, 101, 100]⟩, .string x0] := by
  have h := Blk.new w 9 #[.string ⟨#[112, 114, 101, 100]⟩, .string x0]
  exact (((((((h.alloc _).alloc _).alloc _).alloc _).alloc _).alloc _).alloc _).alloc _
theorem l11B1 (w : World) : Blk (l11W w) (w.heap.size + 1) 9 #[.string ⟨#[97, 100, 100]⟩, .string x1] := by
  have h := Blk.new (l11W1 w) 9 #[.string ⟨#[97, 100, 100]⟩, .string x1]
  rw [l11W1_sz] at h
  exact ((((((h.alloc _).alloc _).alloc _).alloc _).alloc _).alloc _).alloc _
theorem l11B2 (w : World) : Blk (l11W w) (w.heap.size + 2) 9 #[.string ⟨#[109, 117, 108, 116, 105, 112, 108, 121]⟩, .string x2] := by
  have h := Blk.new (l11W2 w) 9 #[.string ⟨#[109, 117, 108, 116, 105, 112, 108, 121]⟩, .string x2]
  rw [l11W2_sz] at h
  exact (((((h.alloc _).alloc _).alloc _).alloc _).alloc _).alloc _
theorem l11B3 (w : World) : Blk (l11W w) (w.heap.size + 3) 9 #[.string ⟨#[109, 105, 110, 117, 115]⟩, .string x3] := by
  have h := Blk.new (l11W3 w) 9 #[.string ⟨#[109, 105, 110, 117, 115]⟩, .string x3]
  rw [l11W3_sz] at h
  exact ((((h.alloc _).alloc _).alloc _).alloc _).alloc _
theorem l11B4 (w : World) : Blk (l11W w) (w.heap.size + 4) 9 #[.string ⟨#[115, 105, 103, 110]⟩, .string x4] := by
  have h := Blk.new (l11W4 w) 9 #[.string ⟨#[115, 105, 103, 110]⟩, .string x4]
  rw [l11W4_sz] at h
  exact (((h.alloc _).alloc _).alloc _).alloc _
theorem l11B5 (w : World) : Blk (l11W w) (w.heap.size + 5) 9 #[.string ⟨#[110, 111, 116]⟩, .string x5] := by
  have h := Blk.new (l11W5 w) 9 #[.string ⟨#[110, 111, 116]⟩, .string x5]
  rw [l11W5_sz] at h
  exact ((h.alloc _).alloc _).alloc _
theorem l11B6 (w : World) : Blk (l11W w) (w.heap.size + 6) 9 #[.string ⟨#[100, 105, 102, 102, 101, 114]⟩, .string x6] := by
  have h := Blk.new (l11W6 w) 9 #[.string ⟨#[100, 105, 102, 102, 101, 114]⟩, .string x6]
  rw [l11W6_sz] at h
  exact (h.alloc _).alloc _
theorem l11B7 (w : World) : Blk (l11W w) (w.heap.size + 7) 9 #[.string ⟨#[104, 97, 108, 118, 101]⟩, .string x7] := by
  have h := Blk.new (l11W7 w) 9 #[.string ⟨#[104, 97, 108, 118, 101]⟩, .string x7]
  rw [l11W7_sz] at h
  exact h.alloc _
theorem l11B (w : World) : Blk (l11W w) (w.heap.size + 8) 48 #[.slice (some ⟨w.heap.size, 0, none⟩) 2 2, .slice (some ⟨w.heap.size + 1, 0, none⟩) 2 2, .slice (some ⟨w.heap.size + 1 + 1, 0, none⟩) 2 2, .slice (some ⟨w.heap.size + 1 + 1 + 1, 0, none⟩) 2 2, .slice (some ⟨w.heap.size + 1 + 1 + 1 + 1, 0, none⟩) 2 2, .slice (some ⟨w.heap.size + 1 + 1 + 1 + 1 + 1, 0, none⟩) 2 2, .slice (some ⟨w.heap.size + 1 + 1 + 1 + 1 + 1 + 1, 0, none⟩) 2 2, .slice (some ⟨w.heap.size + 1 + 1 + 1 + 1 + 1 + 1 + 1, 0, none⟩) 2 2] := by
  have h := Blk.new (l11W8 w) 48 #[.slice (some ⟨w.heap.size, 0, none⟩) 2 2, .slice (some ⟨w.heap.size + 1, 0, none⟩) 2 2, .slice (some ⟨w.heap.size + 1 + 1, 0, none⟩) 2 2, .slice (some ⟨w.heap.size + 1 + 1 + 1, 0, none⟩) 2 2, .slice (some ⟨w.heap.size + 1 + 1 + 1 + 1, 0, none⟩) 2 2, .slice (some ⟨w.heap.size + 1 + 1 + 1 + 1 + 1, 0, none⟩) 2 2, .slice (some ⟨w.heap.size + 1 + 1 + 1 + 1 + 1 + 1, 0, none⟩) 2 2, .slice (some ⟨w.heap.size + 1 + 1 + 1 + 1 + 1 + 1 + 1, 0, none⟩) 2 2]
  rw [l11W8_sz] at h
  exact h
theorem l11W_below (w : World) : Below w.heap.size w (l11W w) := by
  have h : ∀ (a : World) (o : Obj), Below w.heap.size w a → w.heap.size ≤ a.heap.size → Below w.heap.size w (a.alloc o) := fun a o h1 h2 => h1.alloc h2 o
  refine h _ _ ?_ (by rw [l11W8_sz]; omega)
  refine h _ _ ?_ (by rw [l11W7_sz]; omega)
  refine h _ _ ?_ (by rw [l11W6_sz]; omega)
  refine h _ _ ?_ (by rw [l11W5_sz]; omega)
  refine h _ _ ?_ (by rw [l11W4_sz]; omega)
  refine h _ _ ?_ (by rw [l11W3_sz]; omega)
  refine h _ _ ?_ (by rw [l11W2_sz]; omega)
  refine h _ _ ?_ (by rw [l11W1_sz]; omega)
  refine h _ _ ?_ (by omega)
  exact below_size
theorem l11W_at (w : World) (k : Nat) (e : List UInt8 × List UInt8) (he : fnL[k]? = some e) : (l11W w).cell? ⟨w.heap.size + 8, k, none⟩ = some (.slice (some ⟨w.heap.size + k, 0, none⟩) 2 2) ∧ (l11W w).cell? ⟨w.heap.size + k, 0, none⟩ = some (.string (bs e.1)) ∧ (l11W w).cell? ⟨w.heap.size + k, 1, none⟩ = some (.string (bs e.2)) := by
  have hk : k < 8 := (List.getElem?_eq_some_iff.1 he).1
  have hb := (l11B w).cell k
  match k, hk with
  | 0, _ => injection he with he; subst he; exact ⟨hb, (l11B0 w).cell 0, by rw [(l11B0 w).cell 1]; exact congrArg (fun z => some (Value.string z)) x0_eq⟩
  | 1, _ => injection he with he; subst he; exact ⟨hb, (l11B1 w).cell 0, by rw [(l11B1 w).cell 1]; exact congrArg (fun z => some (Value.string z)) x1_eq⟩
  | 2, _ => injection he with he; subst he; exact ⟨hb, (l11B2 w).cell 0, by rw [(l11B2 w).cell 1]; exact congrArg (fun z => some (Value.string z)) x2_eq⟩
  | 3, _ => injection he with he; subst he; exact ⟨hb, (l11B3 w).cell 0, by rw [(l11B3 w).cell 1]; exact congrArg (fun z => some (Value.string z)) x3_eq⟩
  | 4, _ => injection he with he; subst he; exact ⟨hb, (l11B4 w).cell 0, by rw [(l11B4 w).cell 1]; exact congrArg (fun z => some (Value.string z)) x4_eq⟩
  | 5, _ => injection he with he; subst he; exact ⟨hb, (l11B5 w).cell 0, by rw [(l11B5 w).cell 1]; exact congrArg (fun z => some (Value.string z)) x5_eq⟩
  | 6, _ => injection he with he; subst he; exact ⟨hb, (l11B6 w).cell 0, by rw [(l11B6 w).cell 1]; exact congrArg (fun z => some (Value.string z)) x6_eq⟩
  | 7, _ => injection he with he; subst he; exact ⟨hb, (l11B7 w).cell 0, by rw [(l11B7 w).cell 1]; exact congrArg (fun z => some (Value.string z)) x7_eq⟩
  | k + 8, hk => exact absurd hk (by omega)
set_option maxRecDepth 100000 in
theorem l11Texts_c (w : World) : Calls Tryd.prog 28 #[] w fun e w' => e = .returned (.slice (some ⟨w.heap.size + 8, 0, none⟩) 8 8) ∧ w' = l11W w := by
  go_enter Tryd.func28, Tryd.ntmps28
  go_wp2_with fail
  go_ret
  exact ⟨rfl, rfl⟩
theorem FnOut2.bad {w w' : World} (h : Below w.heap.size w w') : FnOut2 ([], 3) w (.returned (.tuple #[.slice none 0 0, .int .i64 3])) w' := ⟨none, 0, 0, rfl, Wr.nil, by omega, h⟩
set_option maxHeartbeats 2000000 in
set_option maxRecDepth 100000 in
theorem l11Standard_c (x : List UInt8) (w : World) : Calls Tryd.prog 16 #[.string (bs x)] w (FnOutB (rfS (fnF fnL x)) w) := by
  obtain ⟨t, ht⟩ : ∃ t, fnF fnL x = t := ⟨_, rfl⟩
  rw [ht]
  have HR := Lib.hid ht
  clear ht
  have gx := bs_toListF x
  have HAT := Lib.hid (l11W_at w)
  have HBW := Lib.hid (l11W_below w)
  have HT := Lib.hid (l11Texts_c w)
  obtain ⟨w1, hw1⟩ : ∃ w1, l11W w = w1 := ⟨_, rfl⟩
  rw [hw1] at HAT HBW HT
  clear hw1
  go_enter Tryd.func16, Tryd.ntmps16
  go_wp2_with (go_at_call 28; refine HT.out.mono ?_; rintro e w2 ⟨rfl, rfl⟩)
  go_loopw [5] (fun iv wr => ∃ k : Nat, k ≤ 8 ∧ iv = .int .i64 (k : Int) ∧ Hid (fnF (fnL.drop k) x = t) ∧ wr = w2) (fun iv _ => 8 - (intOf iv).toNat)
  case atStart => exact ⟨0, by omega, rfl, HR.out, by first | rfl | trivial⟩
  case round =>
    obtain ⟨k, hk, rfl, hF, rfl⟩ := hrel
    by_cases hlt : k < 8
    · obtain ⟨e, he⟩ := fnL_at hlt
      have hem := List.mem_of_getElem? he
      have HF := Lib.hid (show (if e.1 = x then e.2 else fnF (fnL.drop (k + 1)) x) = t by rw [← hF.out, fnF_drop he])
      obtain ⟨hc0, hc1, hc2⟩ := HAT.out k e he
      have HL := Lib.hid (fn_len hem)
      obtain ⟨nm, tx⟩ := e
      simp only at hc0 hc1 hc2 HF HL
      have gn := bs_toListF nm
      clear he hem hF
      by_cases hx : nm = x
      · have HG := Lib.hid (show tx = t by rw [← HF.out, if_pos hx])
        have gq : (nm == x) = true := by simp [hx]
        clear hx HF
        go_wp2_with (go_at_call 12; refine (l11Read_t tx _ (by have := HL.out; omega)).mono ?_; rw [HG.out]; rintro e w3 ⟨A, n, c, rfl, hw, hn, hb⟩)
        go_ret2
        exact ⟨A, n, c, rfl, hw.wider HBW.out.size (Nat.le_refl _), hn, below_chain HBW.out HBW.out.size hb⟩
      · have HG := Lib.hid (show fnF (fnL.drop (k + 1)) x = t by rw [← HF.out, if_neg hx])
        have gq : (nm == x) = false := by rw [beq_eq_false_iff_ne]; exact hx
        clear hx HF
        go_wp2_with fail
        go_roundw
        case rel => exact ⟨k + 1, by omega, by go_num, HG.out, by first | rfl | trivial⟩
        case measure => simp [intOf]; omega
    · obtain rfl : k = 8 := by omega
      have HG := Lib.hid (show ([] : List UInt8) = t by rw [← hF.out]; rfl)
      go_wp2_with fail
      go_ret2
      rw [← HG.out, rfS_nil]
      exact FnOutB.bad HBW.out
theorem sStandardFunc_c (x : ByteArray) (w : World) : Calls Tryd.prog 10 #[.string x] w (FnOut2 (stfR x) w) := by
  obtain ⟨s, rfl⟩ := bs_listR x
  rw [stfR, bs_list]
  have HC := Lib.hid (l11Standard_c s w)
  obtain ⟨⟨f, q⟩, hR⟩ : ∃ R, rfS (fnF fnL s) = R := ⟨_, rfl⟩
  rw [hR] at HC ⊢
  clear hR
  cases q
  · go_enter Tryd.func10, Tryd.ntmps10
    go_wp2_with (go_at_call 16; refine (HC.out).mono ?_; rintro e w1 ⟨A, n, c, rfl, hw1, hn1, hb1⟩)
    go_ret2
    exact FnOut2.bad hb1
  · go_enter Tryd.func10, Tryd.ntmps10
    go_wp2_with (go_at_call 16; refine (HC.out).mono ?_; rintro e w1 ⟨A, n, c, rfl, hw1, hn1, hb1⟩)
    go_ret2
    exact ⟨A, n, c, rfl, hw1, hn1, hb1⟩
theorem iStandardFunc_c (x : ByteArray) (w : World) (ht : Tab w) : Calls Tryd.prog 11 #[.string x] w (FnOut2 (stfR x) w) := by
  obtain ⟨s, rfl⟩ := bs_listR x
  rw [stfR, bs_list]
  have HC := Lib.hid (standardText_c s w)
  have hl := fnF_len (x := s)
  obtain ⟨t, ht'⟩ : ∃ t, fnF fnL s = t := ⟨_, rfl⟩
  rw [ht'] at HC hl ⊢
  clear ht'
  have HD := Lib.hid (iReadFunc_t t w (by omega) ht)
  obtain ⟨⟨f, q⟩, hR⟩ : ∃ R, rfS t = R := ⟨_, rfl⟩
  rw [hR] at HD ⊢
  clear hR
  cases q
  · go_enter Tryd.func11, Tryd.ntmps11
    go_wp2_with (first | (go_at_call 17; refine (HC.out).mono ?_; rintro e w' ⟨rfl, rfl⟩) | (go_at_call 6; refine (HD.out).mono ?_; rintro e w1 ⟨A, n, c, rfl, hw1, hn1, hb1⟩))
    go_ret2
    exact FnOut2.bad hb1
  · go_enter Tryd.func11, Tryd.ntmps11
    go_wp2_with (first | (go_at_call 17; refine (HC.out).mono ?_; rintro e w' ⟨rfl, rfl⟩) | (go_at_call 6; refine (HD.out).mono ?_; rintro e w1 ⟨A, n, c, rfl, hw1, hn1, hb1⟩))
    go_ret2
    exact ⟨A, n, c, rfl, hw1, hn1, hb1⟩
end Go.Proofs.YtnoapoaajidncaaDoor
