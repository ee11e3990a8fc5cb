/-
  The standard programs in plain Lean: names, texts, programs. Nothing of the program.
-/
import Derived.Test.YtkchgjegdmcnaaaDoorPRd
import Derived.Test.YtkchgjegdmcnaaaDoorCRg
import Derived.Test.YtkchgjegdmcnaaaDoorMap
import Derived.Carry
namespace Go.Proofs.YtkchgjegdmcnaaaDoor
open Go.RowKit

def nmS0 : List UInt8 := [114, 101, 118, 101, 114, 115, 101]
def txS0 : List UInt8 := [49, 61, 110, 59, 119, 48, 123, 49, 61, 40, 104, 48, 46, 49, 41, 59, 48, 61, 116, 48, 125, 59, 48, 61, 49]
def prS0 : List Cmd := [(0, 1, 0, [(0, 0)]), (1, 0, 2, [(1, 0)]), (0, 1, 0, [(2, 0), (3, 0), (1, 0), (1, 1)]), (0, 0, 0, [(4, 0), (1, 0)]), (0, 0, 0, [(1, 1)])]
def nmS1 : List UInt8 := [97, 112, 112, 101, 110, 100]
def txS1 : List UInt8 := [49, 61, 104, 48, 59, 50, 61, 110, 59, 119, 49, 123, 50, 61, 40, 104, 49, 46, 50, 41, 59, 49, 61, 116, 49, 125, 59, 49, 61, 116, 48, 59, 119, 50, 123, 49, 61, 40, 104, 50, 46, 49, 41, 59, 50, 61, 116, 50, 125, 59, 48, 61, 49]
def prS1 : List Cmd := [(0, 1, 0, [(3, 0), (1, 0)]), (0, 2, 0, [(0, 0)]), (1, 0, 2, [(1, 1)]), (0, 2, 0, [(2, 0), (3, 0), (1, 1), (1, 2)]), (0, 1, 0, [(4, 0), (1, 1)]), (0, 1, 0, [(4, 0), (1, 0)]), (1, 0, 2, [(1, 2)]), (0, 1, 0, [(2, 0), (3, 0), (1, 2), (1, 1)]), (0, 2, 0, [(4, 0), (1, 2)]), (0, 0, 0, [(1, 1)])]
def nmS2 : List UInt8 := [101, 113, 117, 97, 108]
def txS2 : List UInt8 := [48, 61, 40, 104, 48, 63, 116, 48, 41]
def prS2 : List Cmd := [(0, 0, 0, [(5, 0), (3, 0), (1, 0), (4, 0), (1, 0)])]
def nmS3 : List UInt8 := [115, 119, 97, 112]
def txS3 : List UInt8 := [48, 61, 40, 116, 48, 46, 104, 48, 41]
def prS3 : List Cmd := [(0, 0, 0, [(2, 0), (4, 0), (1, 0), (3, 0), (1, 0)])]
def nmS4 : List UInt8 := [108, 111, 111, 112]
def txS4 : List UInt8 := [49, 61, 40, 110, 46, 110, 41, 59, 119, 49, 123, 50, 61, 110, 125]
def prS4 : List Cmd := [(0, 1, 0, [(2, 0), (0, 0), (0, 0)]), (1, 0, 1, [(1, 1)]), (0, 2, 0, [(0, 0)])]

theorem vcL_s (v : Int) (x : List (Int × Int)) (l : List Cmd) : vcL ((0, v, 0, x) :: l) = (validE x && (inB v 0 5 && vcL l)) := by
  rw [vcL_cons, if_pos rfl, decide_eq_true rfl, Bool.and_true]
theorem vcL_w1 (x : List (Int × Int)) (a : Cmd) (l : List Cmd) : vcL ((1, 0, 1, x) :: a :: l) = (validE x && (vcL [a] && vcL l)) := by
  rw [vcL_cons, if_neg (by decide), if_pos rfl, decide_eq_true rfl, inB_of (by omega) (by rw [List.length_cons]; omega)]
  simp
theorem vcL_w2 (x : List (Int × Int)) (a b : Cmd) (l : List Cmd) : vcL ((1, 0, 2, x) :: a :: b :: l) = (validE x && (vcL [a, b] && vcL l)) := by
  rw [vcL_cons, if_neg (by decide), if_pos rfl, decide_eq_true rfl, inB_of (by omega) (by rw [List.length_cons, List.length_cons]; omega)]
  simp
theorem valid0 : validW prS0 = true := by
  simp only [validW, prS0, vcL_s, vcL_w2, vcL_nil]
  decide
theorem text0 : whT prS0 = txS0 := by
  have d0 := itoa_dig (x := 0) (by omega); have d1 := itoa_dig (x := 1) (by omega)
  simp [whT, prS0, txS0, whL, exT, endM, endP, manyE, binT, Lib.join_cons, Lib.joinTail, d0, d1]

theorem valid1 : validW prS1 = true := by
  simp only [validW, prS1, vcL_s, vcL_w2, vcL_nil]
  decide
theorem text1 : whT prS1 = txS1 := by
  have d0 := itoa_dig (x := 0) (by omega); have d1 := itoa_dig (x := 1) (by omega); have d2 := itoa_dig (x := 2) (by omega)
  simp [whT, prS1, txS1, whL, exT, endM, endP, manyE, binT, Lib.join_cons, Lib.joinTail, d0, d1, d2]

theorem valid2 : validW prS2 = true := by
  simp only [validW, prS2, vcL_s, vcL_nil]
  decide
theorem text2 : whT prS2 = txS2 := by
  have d0 := itoa_dig (x := 0) (by omega)
  simp [whT, prS2, txS2, whL, exT, endM, endP, manyE, binT, Lib.join_cons, Lib.joinTail, d0]

theorem valid3 : validW prS3 = true := by
  simp only [validW, prS3, vcL_s, vcL_nil]
  decide
theorem text3 : whT prS3 = txS3 := by
  have d0 := itoa_dig (x := 0) (by omega)
  simp [whT, prS3, txS3, whL, exT, endM, endP, manyE, binT, Lib.join_cons, Lib.joinTail, d0]

theorem valid4 : validW prS4 = true := by
  simp only [validW, prS4, vcL_s, vcL_w1, vcL_nil]
  decide
theorem text4 : whT prS4 = txS4 := by
  have d1 := itoa_dig (x := 1) (by omega); have d2 := itoa_dig (x := 2) (by omega)
  simp [whT, prS4, txS4, whL, exT, endM, endP, manyE, binT, Lib.join_cons, Lib.joinTail, d1, d2]

/-- names, texts, programs -/
def stdL : List (List UInt8 × List UInt8 × List Cmd) := [(nmS0, txS0, prS0), (nmS1, txS1, prS1), (nmS2, txS2, prS2), (nmS3, txS3, prS3), (nmS4, txS4, prS4)]
theorem stdL_ok : ∀ e ∈ stdL, validW e.2.2 = true ∧ whT e.2.2 = e.2.1 ∧ e.2.2 ≠ [] := by
  intro e he
  simp only [stdL, List.mem_cons, List.not_mem_nil, or_false] at he
  rcases he with rfl | rfl | rfl | rfl | rfl
  · exact ⟨valid0, text0, by simp [prS0]⟩
  · exact ⟨valid1, text1, by simp [prS1]⟩
  · exact ⟨valid2, text2, by simp [prS2]⟩
  · exact ⟨valid3, text3, by simp [prS3]⟩
  · exact ⟨valid4, text4, by simp [prS4]⟩
def stdF : List (List UInt8 × List UInt8 × List Cmd) → List UInt8 → List Cmd × Int
  | [], _ => ([], 3)
  | e :: l, x => if e.1 = x then (e.2.2, 0) else stdF l x
theorem stdF_drop {x : List UInt8} {k : Nat} {e : List UInt8 × List UInt8 × List Cmd} (h : stdL[k]? = some e) : stdF (stdL.drop k) x = if e.1 = x then (e.2.2, 0) else stdF (stdL.drop (k + 1)) x := by rw [drop_at h, stdF]
theorem stdF_in : ∀ {l : List (List UInt8 × List UInt8 × List Cmd)} {x : List UInt8}, x ∈ l.map (·.1) → ∃ e ∈ l, e.1 = x ∧ stdF l x = (e.2.2, 0)
  | [], _, h => by cases h
  | e :: l, x, h => by
    by_cases hx : e.1 = x
    · exact ⟨e, by simp, hx, by rw [stdF, if_pos hx]⟩
    · rw [List.map_cons, List.mem_cons] at h
      obtain ⟨d, h1, h2, h3⟩ := stdF_in (h.resolve_left fun h => hx h.symm)
      exact ⟨d, List.mem_cons_of_mem _ h1, h2, by rw [stdF, if_neg hx]; exact h3⟩
theorem stdF_out : ∀ {l : List (List UInt8 × List UInt8 × List Cmd)} {x : List UInt8}, x ∉ l.map (·.1) → stdF l x = ([], 3)
  | [], _, _ => rfl
  | e :: l, x, h => by
    rw [List.map_cons, List.mem_cons, not_or] at h
    rw [stdF, if_neg (fun e => h.1 e.symm), stdF_out h.2]
def stwR (x : ByteArray) : List Cmd × Int := stdF stdL x.data.toList
theorem stdF_len (x : List UInt8) : (stdF stdL x).1.length ≤ 80 := by
  by_cases h : x ∈ stdL.map (·.1)
  · obtain ⟨e, h1, _, h3⟩ := stdF_in h
    rw [h3]; exact (validW_all (stdL_ok e h1).1).1
  · rw [stdF_out h]; simp

theorem CmOut2.goodC {w w1 : World} {p : List Cmd} {A : Option Addr} {n c : Nat} {js : List Ct} (h : OwnCs w1 w.heap.size A n c js) (hj : js.map datC = p) (hv : validW p = true) (hb : Below w.heap.size w w1) : CmOut2 (p, 0) w (.returned (.tuple #[.slice A n c, .int .i64 0])) w1 := by
  obtain ⟨h1, h2⟩ := OwnCs.valid h hj hv
  exact CmOut2.good h (by omega) (fun t ht => by have := h2 t ht; omega) hj hb
def encS (e : List UInt8 × List UInt8 × List Cmd) : List Value := [.string (bs e.1), .string (bs e.2.1)]
theorem encS_len (e : List UInt8 × List UInt8 × List Cmd) : (encS e).length = 2 := rfl
set_option maxRecDepth 100000 in
theorem l22Standard_c (w : World) : Calls Tryd.prog 28 #[] w fun e w' => e = .returned (.slice (some ⟨w.heap.size, 0, none⟩) 10 10) ∧ w' = w.alloc (.cells (stdL.flatMap encS).toArray 9) := by
  go_enter Tryd.func28, Tryd.ntmps28
  go_wp2_with fail
  go_ret
  exact ⟨rfl, rfl⟩
theorem sxA_std {e : List UInt8 × List UInt8 × List Cmd} (he : e ∈ stdL) : sxA e.2.1 80 0 = (e.2.2, e.2.1.length, true) := by
  obtain ⟨h1, h2, _⟩ := stdL_ok e he
  have h := sxA_read h1
  rw [h2] at h; exact h
theorem std_len {e : List UInt8 × List UInt8 × List Cmd} (he : e ∈ stdL) : e.2.1.length ≤ 1000 := by
  simp only [stdL, List.mem_cons, List.not_mem_nil, or_false] at he
  rcases he with rfl | rfl | rfl | rfl | rfl <;> decide
theorem stdL_at {k : Nat} (h : k < 5) : ∃ e, stdL[k]? = some e := ⟨stdL[k], List.getElem?_eq_getElem h⟩
set_option maxHeartbeats 2000000 in
set_option maxRecDepth 100000 in
theorem sStandardWhile_t (x : List UInt8) (w : World) : Calls Tryd.prog 15 #[.string (bs x)] w (CmOut2 (stdF stdL x) w) := by
  obtain ⟨R, hR⟩ : ∃ R, stdF stdL x = R := ⟨_, rfl⟩
  rw [hR]
  have HR := Lib.hid hR
  clear hR
  have gx := bs_toList x
  obtain ⟨w1, hw1⟩ : ∃ w1, w.alloc (.cells (stdL.flatMap encS).toArray 9) = w1 := ⟨_, rfl⟩
  have B1 := Lib.hid (show Below w.heap.size w w1 by rw [← hw1]; exact below_size.alloc (Nat.le_refl _) _)
  have K1 := Lib.hid (show Blk w1 w.heap.size 9 (stdL.flatMap encS).toArray by rw [← hw1]; exact Blk.new _ _ _)
  have HW := Lib.hid hw1
  clear hw1
  go_enter Tryd.func15, Tryd.ntmps15
  go_wp2_with (go_at_call 28; refine (l22Standard_c _).mono ?_; rintro e w2 ⟨rfl, rfl⟩)
  rw [HW.out]
  go_loopw [5] (fun iv wr => ∃ k : Nat, k ≤ 5 ∧ iv = .int .i64 ((2 * k : Nat) : Int) ∧ Hid (stdF (stdL.drop k) x = R) ∧ wr = w1) (fun iv _ => 10 - (intOf iv).toNat)
  case atStart => exact ⟨0, by omega, rfl, HR.out, rfl⟩
  case round =>
    obtain ⟨k, hk, rfl, hF, rfl⟩ := hrel
    by_cases hlt : k < 5
    · obtain ⟨e, he⟩ := stdL_at hlt
      have hem := List.mem_of_getElem? he
      have HF := Lib.hid (show (if e.1 = x then (e.2.2, 0) else stdF (stdL.drop (k + 1)) x) = R by rw [← hF.out, stdF_drop he])
      have hc0 : wr.cell? ⟨w.heap.size, 2 * k, none⟩ = some (.string (bs e.1)) := by
        have h1 := flatX_at encS 2 encS_len stdL k 0 _ he (by omega)
        rw [K1.out.cell, List.getElem?_toArray, show 2 * k = k * 2 + 0 by omega, h1]; rfl
      have hc1 : wr.cell? ⟨w.heap.size, 2 * k + 1, none⟩ = some (.string (bs e.2.1)) := by
        have h1 := flatX_at encS 2 encS_len stdL k 1 _ he (by omega)
        rw [K1.out.cell, List.getElem?_toArray, show 2 * k + 1 = k * 2 + 1 by omega, h1]; rfl
      have HSX := Lib.hid (sxA_std hem); have HV := Lib.hid (stdL_ok e hem).1; have HL := Lib.hid (std_len hem)
      obtain ⟨nm, tx, pr⟩ := e
      simp only at hc0 hc1 HF HSX HV HL
      have gn := bs_toList nm
      clear he hem hF
      by_cases hx : nm = x
      · have HG := Lib.hid (show (pr, (0 : Int)) = R by rw [← HF.out, if_pos hx])
        have gq : (nm == x) = true := by simp [hx]
        clear hx HF
        go_wp2_with (go_at_call 24; refine (l22ReadAll_c tx (by have := HL.out; omega) 80 (by omega) 0 _ _ _ (by omega) (by omega) (by omega)).mono ?_; rw [HSX.out]; rintro e w3 ⟨A, n, c, js, rfl, hO, hj, ht, hn, hz, hb⟩)
        go_ret2
        rw [← HG.out]
        exact CmOut2.goodC (hO.low (by have := B1.out.size; omega)) hj HV.out (below_chain B1.out B1.out.size hb)
      · have HG := Lib.hid (show stdF (stdL.drop (k + 1)) x = R by rw [← HF.out, if_neg hx])
        have gq : (nm == x) = false := by rw [beq_eq_false_iff_ne]; exact hx
        clear hx HF
        go_wp2_with fail
        go_roundw
        case rel => exact ⟨k + 1, by omega, by go_num, HG.out, by first | rfl | trivial⟩
        case measure => simp [intOf]; omega
    · obtain rfl : k = 5 := by omega
      have HG := Lib.hid (show (([], 3) : List Cmd × Int) = R by rw [← hF.out]; rfl)
      go_wp2_with fail
      go_ret2
      rw [← HG.out]
      exact CmOut2.bad 3 B1.out
theorem sStandardWhile_c (x : ByteArray) (w : World) : Calls Tryd.prog 15 #[.string x] w (CmOut2 (stwR x) w) := by
  obtain ⟨s, rfl⟩ := bs_list' x
  rw [stwR, bs_list]
  exact sStandardWhile_t s w
theorem rwS_std {e : List UInt8 × List UInt8 × List Cmd} (he : e ∈ stdL) : rwS e.2.1 = (e.2.2, true) := by
  obtain ⟨h1, h2, h3⟩ := stdL_ok e he
  have h := (rw_text h1 h3).1
  rw [h2] at h; exact h
set_option maxRecDepth 100000 in
theorem whileOf_c (e : List UInt8 × List UInt8 × List Cmd) (he : e ∈ stdL) (w : World) (ht : Tab w) : Calls Tryd.prog 29 #[.string (bs e.2.1)] w fun en w' => ∃ A n c ps, en = .returned (.slice A n c) ∧ WrS w' w.heap.size w'.heap.size (sgCS A n ps) ∧ (n ≤ 100 ∧ (∀ t ∈ ps, t.n ≤ 1000000) ∧ sumC ps ≤ 300000000 ∧ ps.map datC = e.2.2) ∧ Below w.heap.size w w' := by
  have HT := Lib.hid ht
  have HL := Lib.hid (std_len he)
  have HS := Lib.hid (rwS_std he)
  clear he ht
  go_enter Tryd.func29, Tryd.ntmps29
  go_wp2_with (go_at_call 12; refine (iReadWhile_t e.2.1 _ (by have := HL.out; omega) HT.out).mono ?_; rw [HS.out]; rintro en w1 ⟨A, n, c, ps, rfl, hw, hl, hb⟩)
  go_ret
  exact ⟨A, n, c, ps, rfl, hw, hl, hb⟩
/-- the map of the texts by names -/
def stdM (k : Nat) : List (ByteArray × ByteArray) := (stdL.take k).map fun e => (bs e.1, bs e.2.1)
theorem stdM_not : ∀ k, k < 5 → ∀ e, stdL[k]? = some e → bs e.1 ∉ (stdM k).map (·.1) := by
  intro k hk e he h
  simp only [stdM, List.map_map, List.mem_map, Function.comp] at h
  obtain ⟨d, hd, e1⟩ := h
  have e2 := bs_inj e1
  obtain ⟨j, hj, hjd⟩ := List.mem_iff_getElem.1 hd
  rw [List.length_take] at hj
  rw [List.getElem_take] at hjd
  have hjk : j < k := by omega
  have h5 : ∀ j k : Nat, j < k → k < 5 → ∀ a b, stdL[j]? = some a → stdL[k]? = some b → a.1 ≠ b.1 := by
    intro j k h1 h2 a b ha hb
    have hd : ∀ j, j < 5 → ∀ k, k < 5 → j < k → (stdL[j]?.map (·.1)) ≠ (stdL[k]?.map (·.1)) := by decide
    intro e
    exact hd j (by omega) k h2 h1 (by rw [ha, hb, Option.map_some, Option.map_some, e])
  exact h5 j k hjk hk d e (by rw [List.getElem?_eq_getElem (by show j < 5; omega), hjd]) he e2
theorem stdM_succ {k : Nat} {e : List UInt8 × List UInt8 × List Cmd} (h : stdL[k]? = some e) : stdM (k + 1) = stdM k ++ [(bs e.1, bs e.2.1)] := by rw [stdM, take_at h, List.map_append]; rfl
theorem std_store (k : Nat) (hk : k < 5) (e : List UInt8 × List UInt8 × List Cmd) (he : stdL[k]? = some e) (g : Nat) (w : World) (h : MapAt w g Value.string Value.string (stdM k)) :
    ∃ w', (Instr.mapUpdate 55 (.map (some g)) (.string (bs e.1)) (.string (bs e.2.1))).run Tryd.prog w = .ok () w' ∧ MapAt w' g Value.string Value.string (stdM (k + 1)) ∧ KeepR g (g + 1) w w' ∧ w'.heap.size = w.heap.size := by
  rw [stdM_succ he]
  exact h.store (keyOk_str Tryd.underlying9) Tryd.underlying55 (stdM_not k hk e he) (bs e.2.1)
set_option maxHeartbeats 2000000 in
set_option maxRecDepth 100000 in
theorem iStandardWhile_t (x : List UInt8) (w : World) (ht : Tab w) : Calls Tryd.prog 16 #[.string (bs x)] w (CmOut2 (stdF stdL x) w) := by
  obtain ⟨R, hR⟩ : ∃ R, stdF stdL x = R := ⟨_, rfl⟩
  rw [hR]
  have HR := Lib.hid hR; have HT := Lib.hid ht
  clear hR ht
  obtain ⟨w1, hw1⟩ : ∃ w1, w.alloc (.map #[] 0) = w1 := ⟨_, rfl⟩
  have hm1 : MapAt w1 w.heap.size Value.string Value.string (stdM 0) := by rw [← hw1]; exact MapAt.new w _ _
  have hmk : (Instr.makeMap 55 none).run Tryd.prog w = .ok (.map (some w.heap.size)) w1 := by rw [← hw1]; rfl
  have hB1 : KeepR w.heap.size (w.heap.size + 1) w w1 := by rw [← hw1]; exact KeepR.of_below (below_size.alloc (Nat.le_refl _) _)
  obtain ⟨w2, hr2, hm2, hk2, hz2⟩ := std_store 0 (by omega) _ rfl w.heap.size w1 hm1
  obtain ⟨w3, hr3, hm3, hk3, hz3⟩ := std_store 1 (by omega) _ rfl w.heap.size w2 hm2
  obtain ⟨w4, hr4, hm4, hk4, hz4⟩ := std_store 2 (by omega) _ rfl w.heap.size w3 hm3
  obtain ⟨w5, hr5, hm5, hk5, hz5⟩ := std_store 3 (by omega) _ rfl w.heap.size w4 hm4
  obtain ⟨w6, hr6, hm6, hk6, hz6⟩ := std_store 4 (by omega) _ rfl w.heap.size w5 hm5
  have hr2' : (Instr.mapUpdate 55 (.map (some w.heap.size)) (.string ⟨#[114, 101, 118, 101, 114, 115, 101]⟩) (.string ⟨#[49, 61, 110, 59, 119, 48, 123, 49, 61, 40, 104, 48, 46, 49, 41, 59, 48, 61, 116, 48, 125, 59, 48, 61, 49]⟩)).run Tryd.prog w1 = .ok () w2 := hr2
  have hr3' : (Instr.mapUpdate 55 (.map (some w.heap.size)) (.string ⟨#[97, 112, 112, 101, 110, 100]⟩) (.string ⟨#[49, 61, 104, 48, 59, 50, 61, 110, 59, 119, 49, 123, 50, 61, 40, 104, 49, 46, 50, 41, 59, 49, 61, 116, 49, 125, 59, 49, 61, 116, 48, 59, 119, 50, 123, 49, 61, 40, 104, 50, 46, 49, 41, 59, 50, 61, 116, 50, 125, 59, 48, 61, 49]⟩)).run Tryd.prog w2 = .ok () w3 := hr3
  have hr4' : (Instr.mapUpdate 55 (.map (some w.heap.size)) (.string ⟨#[101, 113, 117, 97, 108]⟩) (.string ⟨#[48, 61, 40, 104, 48, 63, 116, 48, 41]⟩)).run Tryd.prog w3 = .ok () w4 := hr4
  have hr5' : (Instr.mapUpdate 55 (.map (some w.heap.size)) (.string ⟨#[115, 119, 97, 112]⟩) (.string ⟨#[48, 61, 40, 116, 48, 46, 104, 48, 41]⟩)).run Tryd.prog w4 = .ok () w5 := hr5
  have hr6' : (Instr.mapUpdate 55 (.map (some w.heap.size)) (.string ⟨#[108, 111, 111, 112]⟩) (.string ⟨#[49, 61, 40, 110, 46, 110, 41, 59, 119, 49, 123, 50, 61, 110, 125]⟩)).run Tryd.prog w5 = .ok () w6 := hr6
  have B6 := Lib.hid (show Below w.heap.size w w6 from ((((hB1.trans hk2).trans hk3).trans hk4).trans hk5 |>.trans hk6).below (Nat.le_refl _) (Nat.le_refl _))
  have M6 := Lib.hid hm6
  clear hw1 hm1 hm2 hm3 hm4 hm5 hm6 hk2 hk3 hk4 hk5 hk6 hz2 hz3 hz4 hz5 hz6 hr2 hr3 hr4 hr5 hr6 hB1
  by_cases hin : x ∈ stdL.map (·.1)
  · obtain ⟨e, he, hx, hF⟩ := stdF_in hin
    have HG := Lib.hid (show (e.2.2, (0 : Int)) = R by rw [← HR.out, hF])
    have HE := Lib.hid he
    have hlk : (Instr.lookup 55 (.map (some w.heap.size)) (.string (bs x)) true).run Tryd.prog w6 = .ok (.tuple #[.string (bs e.2.1), .bool true]) w6 := by
      refine M6.out.look_some (keyOk_str Tryd.underlying9) Tryd.underlying55 (k := bs x) (v := bs e.2.1) ?_ ?_
      · rw [stdM, List.map_map]; exact List.mem_map.2 ⟨e, (show e ∈ stdL.take 5 from he), by rw [← hx]; rfl⟩
      · intro v' hv
        rw [stdM] at hv
        obtain ⟨d, hd, hdv⟩ := List.mem_map.1 hv
        injection hdv with h1 h2
        have h3 := bs_inj h1
        rw [← hx] at h3
        have hd' : d ∈ stdL := List.mem_of_mem_take hd
        have hu : ∀ a ∈ stdL, ∀ b ∈ stdL, a.1 = b.1 → a.2.1 = b.2.1 := by decide
        rw [← h2, hu d hd' e he h3]
    clear he hx hF hin
    go_enter Tryd.func16, Tryd.ntmps16
    go_wp2_with (go_at_call 29; refine (whileOf_c e HE.out _ (HT.out.below B6.out)).mono ?_; rintro en w8 ⟨A, n, c, ps, rfl, hw, hl, hb⟩)
    go_ret2
    rw [← HG.out]
    exact ⟨A, n, c, ps, rfl, hw.wider B6.out.size (Nat.le_refl _), hl, below_chain B6.out B6.out.size hb⟩
  · have HG := Lib.hid (show (([], 3) : List Cmd × Int) = R by rw [← HR.out, stdF_out hin])
    have hlk : (Instr.lookup 55 (.map (some w.heap.size)) (.string (bs x)) true).run Tryd.prog w6 = .ok (.tuple #[.string ⟨#[]⟩, .bool false]) w6 := by
      refine M6.out.look_none (keyOk_str Tryd.underlying9) Tryd.underlying55 (by kernel_rfl) (k := bs x) ?_
      intro h
      rw [stdM, List.map_map] at h
      obtain ⟨d, hd, e1⟩ := List.mem_map.1 h
      exact hin (List.mem_map.2 ⟨d, List.mem_of_mem_take hd, bs_inj e1⟩)
    clear hin
    go_enter Tryd.func16, Tryd.ntmps16
    go_wp2_with fail
    go_ret2
    rw [← HG.out]
    exact CmOut2.bad 3 B6.out
theorem iStandardWhile_c (x : ByteArray) (w : World) (ht : Tab w) : Calls Tryd.prog 16 #[.string x] w (CmOut2 (stwR x) w) := by
  obtain ⟨s, rfl⟩ := bs_list' x
  rw [stwR, bs_list]
  exact iStandardWhile_t s w ht
end Go.Proofs.YtkchgjegdmcnaaaDoor
