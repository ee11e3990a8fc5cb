/-
  While programs with one variable, in plain Lean. Nothing of the program.
-/
import Derived.Test.YtecpbgmcednpoaaPWb
import Derived.Test.YtecpbgmcednpoaaRdx
import Derived.Test.YtecpbgmcednpoaaCWd
import Derived.Test.YtecpbgmcednpoaaCWf
namespace Go.Proofs.Ytecpbgmcednpoaa
open Go.RowKit

/-- where a variable stands among n packed ones -/
def placeP (k n : Nat) : List (Int × Int) := (if k + 1 < n then [((3 : Int), (0 : Int))] else []) ++ (List.replicate k ((4 : Int), (0 : Int)) ++ [(1, 0)])
theorem placeP_len (k n : Nat) : (placeP k n).length ≤ k + 2 := by unfold placeP; split <;> simp
theorem placeP_pos (k n : Nat) : 1 ≤ (placeP k n).length := by unfold placeP; simp; omega
def movedP (x : List (Int × Int)) (n : Nat) : List (Int × Int) := x.flatMap fun y => if y.1 = 1 then placeP y.2.toNat n else [y]
theorem movedP_cons (y : Int × Int) (l : List (Int × Int)) (n : Nat) : movedP (y :: l) n = (if y.1 = 1 then placeP y.2.toNat n else [y]) ++ movedP l n := List.flatMap_cons ..
theorem movedP_app (a b : List (Int × Int)) (n : Nat) : movedP (a ++ b) n = movedP a n ++ movedP b n := List.flatMap_append ..
theorem movedP_pos {x : List (Int × Int)} {n : Nat} (h : 1 ≤ x.length) : 1 ≤ (movedP x n).length := by
  cases x with
  | nil => simp at h
  | cons y l =>
    rw [movedP_cons, List.length_append]
    have := placeP_pos y.2.toNat n
    split <;> simp <;> omega
theorem movedP_len (n : Nat) : ∀ (x : List (Int × Int)), (∀ y ∈ x, y.1 = 1 → y.2 ≤ 5) → (movedP x n).length ≤ 7 * x.length
  | [], _ => by simp [movedP]
  | y :: l, h => by
    have h1 := movedP_len n l fun z hz => h z (by simp [hz])
    have h2 := placeP_len y.2.toNat n
    have h3 := h y (by simp)
    rw [movedP_cons, List.length_append, List.length_cons]
    split
    · rename_i h4; have := h3 h4; omega
    · simp; omega
def packedP : List (List (Int × Int)) → List (Int × Int)
  | [] => []
  | [x] => x
  | x :: y :: l => (2, 0) :: (x ++ packedP (y :: l))
theorem packedP_one (x : List (Int × Int)) : packedP [x] = x := rfl
theorem packedP_two (x y : List (Int × Int)) (l : List (List (Int × Int))) : packedP (x :: y :: l) = (2, 0) :: (x ++ packedP (y :: l)) := rfl
/-- the elements of all lists -/
def sumL (ls : List (List (Int × Int))) : Nat := (ls.map List.length).sum
theorem packedP_len : ∀ ls : List (List (Int × Int)), (packedP ls).length ≤ ls.length + sumL ls
  | [] => by simp [packedP]
  | [x] => by simp [packedP, sumL]
  | x :: y :: l => by
    have := packedP_len (y :: l)
    rw [packedP_two]
    simp [sumL] at this ⊢; omega
/-- one more than the greatest of some numbers, and no less than a -/
def topV (vs : List Int) (a : Int) : Int := vs.foldl (fun n v => if n > v + 1 then n else v + 1) a
theorem topV_nil (a : Int) : topV [] a = a := rfl
theorem topV_cons (v : Int) (l : List Int) (a : Int) : topV (v :: l) a = topV l (if a > v + 1 then a else v + 1) := rfl
theorem topV_app (a b : List Int) (x : Int) : topV (a ++ b) x = topV b (topV a x) := List.foldl_append ..
theorem topV_le : ∀ {vs : List Int} {a b : Int}, topV vs a ≤ b ↔ a ≤ b ∧ ∀ v ∈ vs, v + 1 ≤ b
  | [], a, b => by simp [topV_nil]
  | v :: l, a, b => by
    rw [topV_cons, topV_le]
    constructor
    · rintro ⟨h1, h2⟩
      refine ⟨by split at h1 <;> omega, fun u hu => ?_⟩
      rcases List.mem_cons.1 hu with rfl | hu
      · split at h1 <;> omega
      · exact h2 u hu
    · rintro ⟨h1, h2⟩
      have := h2 v (by simp)
      exact ⟨by split <;> omega, fun u hu => h2 u (by simp [hu])⟩
theorem topV_set {a b : List Int} (h : ∀ v, v ∈ a ↔ v ∈ b) (x y : Int) (hxy : ∀ c, (x ≤ c ∧ ∀ v ∈ a, v + 1 ≤ c) ↔ (y ≤ c ∧ ∀ v ∈ a, v + 1 ≤ c)) : topV a x = topV b y := by
  have key : ∀ c, topV a x ≤ c ↔ topV b y ≤ c := by
    intro c
    rw [topV_le, topV_le, hxy c]
    constructor
    · rintro ⟨h1, h2⟩; exact ⟨h1, fun v hv => h2 v ((h v).2 hv)⟩
    · rintro ⟨h1, h2⟩; exact ⟨h1, fun v hv => h2 v ((h v).1 hv)⟩
  exact Int.le_antisymm ((key _).2 (Int.le_refl _)) ((key _).1 (Int.le_refl _))
def topW (D : List Cmd) : Int := topV (varsW D) 0
/-- the packed places, one of them with an expression in its place -/
def listP (n v : Nat) (x : List (Int × Int)) : List (List (Int × Int)) := (List.range n).map fun j => if j = v then x else placeP j n
theorem listP_len (n v : Nat) (x : List (Int × Int)) : (listP n v x).length = n := by simp [listP]
theorem listP_at {n v j : Nat} {x : List (Int × Int)} (h : j < n) : (listP n v x)[j]? = some (if j = v then x else placeP j n) := by
  unfold listP
  rw [List.getElem?_map, List.getElem?_range h]; rfl
theorem sumL_le {ls : List (List (Int × Int))} {b : Nat} (h : ∀ x ∈ ls, x.length ≤ b) : sumL ls ≤ ls.length * b := by
  induction ls with
  | nil => simp [sumL]
  | cons x l ih =>
    have h1 := h x (by simp)
    have h2 := ih fun y hy => h y (by simp [hy])
    unfold sumL at h2 ⊢
    rw [List.map_cons, List.sum_cons, List.length_cons, Nat.succ_mul]; omega
def startP (n : Nat) : List (List (Int × Int)) := (List.range n).map fun j => [((if j = 0 then (1 : Int) else 0), (0 : Int))]
def oneC (n : Nat) (c : Cmd) : Cmd := (c.1, 0, c.2.2.1, if c.1 = 0 then packedP (listP n c.2.1.toNat (movedP c.2.2.2 n)) else movedP c.2.2.2 n)
def oneP (n : Nat) (D : List Cmd) : List Cmd := (0, 0, 0, packedP (startP n)) :: (D.map (oneC n) ++ [(0, 0, 0, [(3, 0), (1, 0)])])
def oneD (D : List Cmd) : List Cmd := if topW D ≤ 1 then D else oneP (topW D).toNat D
def ovR (D : List Cmd) : List Cmd × Int := if validW D = true then (if validW (oneD D) = true then (oneD D, 0) else ([], 5)) else ([], 1)
theorem okE_bd {x : Int × Int} (h : okE x = true) : 0 ≤ x.2 ∧ x.2 ≤ 5 := by
  simp only [okE, Bool.and_eq_true] at h
  exact inB_t h.1.2
/-- a while command has no variable -/
theorem vcL_zero : ∀ (N : Nat) (l : List Cmd), l.length ≤ N → vcL l = true → ∀ c ∈ l, c.1 = 0 ∨ c.2.1 = 0
  | _, [], _, _, c, hc => by cases hc
  | 0, x :: l, hN, _, c, hc => by simp at hN
  | N + 1, (k, v, n, x) :: l, hN, h, c, hc => by
    rw [vcL_cons] at h
    simp only [List.length_cons] at hN
    simp only [Bool.and_eq_true] at h
    obtain ⟨h1, h2⟩ := h
    by_cases hk : k = 0
    · rw [if_pos hk] at h2
      simp only [Bool.and_eq_true] at h2
      rcases List.mem_cons.1 hc with rfl | hc
      · exact .inl hk
      · exact vcL_zero N l (by omega) h2.2 c hc
    · rw [if_neg hk] at h2
      by_cases hk1 : k = 1
      · rw [if_pos hk1] at h2
        simp only [Bool.and_eq_true] at h2
        rcases List.mem_cons.1 hc with rfl | hc
        · exact .inr (by simpa using h2.1.1.1)
        · rw [← List.take_append_drop n.toNat l] at hc
          rcases List.mem_append.1 hc with hc | hc
          · exact vcL_zero N _ (by rw [List.length_take]; omega) h2.1.2 c hc
          · exact vcL_zero N _ (by rw [List.length_drop]; omega) h2.2 c hc
      · rw [if_neg hk1] at h2; cases h2
theorem varsW_bd {D : List Cmd} (h : validW D = true) : ∀ v ∈ varsW D, 0 ≤ v ∧ v ≤ 5 := by
  intro v hv
  obtain ⟨c, hc, hv⟩ := List.mem_flatMap.1 hv
  obtain ⟨e1, _, e3⟩ := (validW_all h).2 c hc
  rcases List.mem_append.1 hv with hv | hv
  · split at hv
    · rw [List.mem_singleton] at hv; subst hv; exact inB_t e3
    · cases hv
  · obtain ⟨y, hy, hyv⟩ := List.mem_filterMap.1 hv
    obtain ⟨_, _, _, e4⟩ := validE_end e1
    have h5 := List.all_eq_true.1 e4 y hy
    split at hyv
    · injection hyv with hyv; subst hyv
      simp only [okE, Bool.and_eq_true] at h5
      exact inB_t h5.1.2
    · cases hyv
theorem topW_bd {D : List Cmd} (h : validW D = true) : 0 ≤ topW D ∧ topW D ≤ 6 := by
  constructor
  · have := (topV_le (vs := varsW D) (a := 0) (b := topW D)).1 (Int.le_refl _); exact this.1
  · exact topV_le.2 ⟨by omega, fun v hv => by have := varsW_bd h v hv; omega⟩
/-- the program counts from 1 over the sorted variables -/
theorem topV_prog {D : List Cmd} {S : List Int} (h : normV (varsW D) = S) : topV S 1 = if topW D ≤ 1 then 1 else topW D := by
  have hm : ∀ v, v ∈ varsW D ↔ v ∈ S := fun v => by rw [← h]; exact normV_mem.symm
  have key : ∀ c, topV S 1 ≤ c ↔ (1 ≤ c ∧ topW D ≤ c) := by
    intro c
    unfold topW
    rw [topV_le, topV_le]
    constructor
    · rintro ⟨h1, h2⟩; exact ⟨h1, by omega, fun v hv => h2 v ((hm v).1 hv)⟩
    · rintro ⟨h1, _, h2⟩; exact ⟨h1, fun v hv => h2 v ((hm v).2 hv)⟩
  have h1 := (key _).1 (Int.le_refl _)
  split
  · have := (key 1).2 ⟨by omega, by omega⟩; omega
  · have := (key (topW D)).2 ⟨by omega, Int.le_refl _⟩; omega

/-- an expression of the call's own -/
def ExOut (F : List (Int × Int)) (w : World) (e : Ending) (w' : World) : Prop := ∃ A m c, e = .returned (.slice A m c) ∧ Wr w' w.heap.size w'.heap.size A (m * 2) (F.flatMap enc2) ∧ m ≤ c ∧ Below w.heap.size w w'
theorem wr_len2 {w : World} {lo hi m : Nat} {A : Option Addr} {F : List (Int × Int)} (h : Wr w lo hi A (m * 2) (F.flatMap enc2)) : F.length = m := Rd2.len (w := w) (A := A) h.rd
set_option maxHeartbeats 2000000 in
set_option maxRecDepth 100000 in
theorem l23Place_c (k n : Nat) (w : World) (hk : k ≤ 10) (hn : n ≤ 10) : Calls Try.prog 64 #[.int .i64 k, .int .i64 n] w (ExOut (placeP k n) w) := by
  obtain ⟨S, hS⟩ : ∃ S, placeP k n = S := ⟨_, rfl⟩
  rw [hS]
  obtain ⟨w0, hw0⟩ : ∃ w0, w.alloc (.cells #[] 49) = w0 := ⟨_, rfl⟩
  have O0 := Lib.hid (show Own w0 w.heap.size 49 2 (some ⟨w.heap.size, 0, none⟩) 0 0 (([] : List (Int × Int)).flatMap enc2) by rw [← hw0]; exact Own.litK (Nat.le_refl _))
  have B0 := Lib.hid (show Below w.heap.size w w0 by rw [← hw0]; exact below_size.alloc (Nat.le_refl _) _)
  have hz0 := B0.out.size
  have HS := Lib.hid (show (if k + 1 < n then [((3 : Int), (0 : Int))] else []) ++ (List.replicate k ((4 : Int), (0 : Int)) ++ [(1, 0)]) = S from hS)
  clear hS
  by_cases hkn : k + 1 < n
  · have HG := Lib.hid (show [((3 : Int), (0 : Int))] ++ (List.replicate k ((4 : Int), (0 : Int)) ++ [(1, 0)]) = S by rw [← HS.out, if_pos hkn])
    have v1 : IntKind.i64.wrap ((n : Int) - 1) = (n : Int) - 1 := IntWalk.i64_in _ (by omega)
    have g1 : decide ((k : Int) < (n : Int) - 1) = true := by rw [decide_eq_true_eq]; omega
    go_enter Try.func64, Try.ntmps64
    go_wp2_with (at_builtin; refine wp_appExpr (by rfl) _ _ (by rfl) w.heap.size _ _ _ _ (by rfl) (by exact O0.out.alloc _) _ _ _ ([(3, 0)]) (by rfl) (by exact rd_newE ([(3, 0)]) _ rfl rfl) (by omega) (by first | omega | (simp; omega) | (simp; done)) ?_; intro A3 c3 w3 own3 hb3 hk3 hg3 hz3)
    have O3 := Lib.hid (show Own w3 w.heap.size 49 2 A3 1 c3 ([((3 : Int), (0 : Int))].flatMap enc2) by simpa using own3)
    have B3 := Lib.hid ((B0.out.alloc hz0 _).trans hb3)
    clear own3 hb3 hk3 hg3 hz3
    clear g1 v1
    go_loopw [0, 5] (fun kv ov wr => ∃ (j m cc : Nat) (O : Option Addr) (b : List (Int × Int)), j ≤ k ∧ m + j ≤ k + 1 ∧ kv = .int .i64 j ∧ ov = .slice O m cc ∧ Hid (Own wr w.heap.size 49 2 O m cc (b.flatMap enc2)) ∧ Hid (b ++ (List.replicate j ((4 : Int), (0 : Int)) ++ [(1, 0)]) = S) ∧ Below w.heap.size w wr) (fun kv _ _ => (intOf kv).toNat)
    case atStart => exact ⟨k, 1, c3, A3, [((3 : Int), (0 : Int))], by omega, by omega, rfl, rfl, O3.out, HG.out, B3.out⟩
    case round =>
      obtain ⟨j, m, cc, O, b, hjk, hmj, rfl, rfl, hO, hr, hb⟩ := hrel
      have HB := Lib.hid hb
      have hzr := hb.size
      clear hb
      by_cases hj0 : 0 < j
      · obtain ⟨i, rfl⟩ : ∃ i, j = i + 1 := ⟨j - 1, by omega⟩
        have HR := Lib.hid (show (b ++ [((4 : Int), (0 : Int))]) ++ (List.replicate i ((4 : Int), (0 : Int)) ++ [(1, 0)]) = S by rw [← hr.out, List.replicate_succ]; simp)
        have g2 : decide ((0 : Int) < ((i : Int) + 1)) = true := by rw [decide_eq_true_eq]; omega
        go_wp2_with (at_builtin; refine wp_appExpr (by rfl) _ _ (by rfl) w.heap.size _ _ _ _ (by rfl) (by exact hO.out.alloc _) _ _ _ ([(4, 0)]) (by rfl) (by exact rd_newE ([(4, 0)]) _ rfl rfl) (by omega) (by first | omega | (simp; omega) | (simp; done)) ?_; intro A4 c4 w4 own4 hb4 hk4 hg4 hz4)
        rw [← List.flatMap_append] at own4
        have O4 := Lib.hid own4; have B4 := Lib.hid ((HB.out.alloc hzr _).trans hb4)
        clear own4 hb4 hk4 hg4 hz4
        go_roundw
        case rel => exact ⟨i, m + 1, c4, A4, b ++ [(4, 0)], by omega, by omega, by go_num, rfl, O4.out, HR.out, B4.out⟩
        case measure => first | (simp [intOf]; done) | (simp [intOf]; omega)
      · obtain rfl : j = 0 := by omega
        have HR := Lib.hid (show b ++ [((1 : Int), (0 : Int))] = S by rw [← hr.out]; rfl)
        clear hr
        go_wp2_with (at_builtin; refine wp_appExpr (by rfl) _ _ (by rfl) w.heap.size _ _ _ _ (by rfl) (by exact hO.out.alloc _) _ _ _ ([(1, 0)]) (by rfl) (by exact rd_newE ([(1, 0)]) _ rfl rfl) (by omega) (by first | omega | (simp; omega) | (simp; done)) ?_; intro A4 c4 w4 own4 hb4 hk4 hg4 hz4)
        rw [← List.flatMap_append, HR.out] at own4
        have hcap := own4.cap
        have O4 := Lib.hid own4; have B4 := Lib.hid ((HB.out.alloc hzr _).trans hb4)
        clear own4 hb4 hk4 hg4 hz4
        go_ret
        exact ⟨A4, m + 1, c4, rfl, O4.out.wrK, hcap, B4.out⟩
  · have HG := Lib.hid (show [] ++ (List.replicate k ((4 : Int), (0 : Int)) ++ [(1, 0)]) = S by rw [← HS.out, if_neg hkn])
    have g1 : decide ((k : Int) < (n : Int) - 1) = false := by rw [decide_eq_false_iff_not]; omega
    have v1 : IntKind.i64.wrap ((n : Int) - 1) = (n : Int) - 1 := IntWalk.i64_in _ (by omega)
    go_enter Try.func64, Try.ntmps64
    go_wp2_with fail
    clear g1 v1
    go_loopw [0, 5] (fun kv ov wr => ∃ (j m cc : Nat) (O : Option Addr) (b : List (Int × Int)), j ≤ k ∧ m + j ≤ k + 1 ∧ kv = .int .i64 j ∧ ov = .slice O m cc ∧ Hid (Own wr w.heap.size 49 2 O m cc (b.flatMap enc2)) ∧ Hid (b ++ (List.replicate j ((4 : Int), (0 : Int)) ++ [(1, 0)]) = S) ∧ Below w.heap.size w wr) (fun kv _ _ => (intOf kv).toNat)
    case atStart => exact ⟨k, 0, 0, some ⟨w.heap.size, 0, none⟩, [], by omega, by omega, rfl, rfl, O0.out, HG.out, B0.out⟩
    case round =>
      obtain ⟨j, m, cc, O, b, hjk, hmj, rfl, rfl, hO, hr, hb⟩ := hrel
      have HB := Lib.hid hb
      have hzr := hb.size
      clear hb
      by_cases hj0 : 0 < j
      · obtain ⟨i, rfl⟩ : ∃ i, j = i + 1 := ⟨j - 1, by omega⟩
        have HR := Lib.hid (show (b ++ [((4 : Int), (0 : Int))]) ++ (List.replicate i ((4 : Int), (0 : Int)) ++ [(1, 0)]) = S by rw [← hr.out, List.replicate_succ]; simp)
        have g2 : decide ((0 : Int) < ((i : Int) + 1)) = true := by rw [decide_eq_true_eq]; omega
        go_wp2_with (at_builtin; refine wp_appExpr (by rfl) _ _ (by rfl) w.heap.size _ _ _ _ (by rfl) (by exact hO.out.alloc _) _ _ _ ([(4, 0)]) (by rfl) (by exact rd_newE ([(4, 0)]) _ rfl rfl) (by omega) (by first | omega | (simp; omega) | (simp; done)) ?_; intro A4 c4 w4 own4 hb4 hk4 hg4 hz4)
        rw [← List.flatMap_append] at own4
        have O4 := Lib.hid own4; have B4 := Lib.hid ((HB.out.alloc hzr _).trans hb4)
        clear own4 hb4 hk4 hg4 hz4
        go_roundw
        case rel => exact ⟨i, m + 1, c4, A4, b ++ [(4, 0)], by omega, by omega, by go_num, rfl, O4.out, HR.out, B4.out⟩
        case measure => first | (simp [intOf]; done) | (simp [intOf]; omega)
      · obtain rfl : j = 0 := by omega
        have HR := Lib.hid (show b ++ [((1 : Int), (0 : Int))] = S by rw [← hr.out]; rfl)
        clear hr
        go_wp2_with (at_builtin; refine wp_appExpr (by rfl) _ _ (by rfl) w.heap.size _ _ _ _ (by rfl) (by exact hO.out.alloc _) _ _ _ ([(1, 0)]) (by rfl) (by exact rd_newE ([(1, 0)]) _ rfl rfl) (by omega) (by first | omega | (simp; omega) | (simp; done)) ?_; intro A4 c4 w4 own4 hb4 hk4 hg4 hz4)
        rw [← List.flatMap_append, HR.out] at own4
        have hcap := own4.cap
        have O4 := Lib.hid own4; have B4 := Lib.hid ((HB.out.alloc hzr _).trans hb4)
        clear own4 hb4 hk4 hg4 hz4
        go_ret
        exact ⟨A4, m + 1, c4, rfl, O4.out.wrK, hcap, B4.out⟩
set_option maxHeartbeats 4000000 in
set_option maxRecDepth 100000 in
theorem l23Moved_c (A : Option Addr) (m c : Nat) (xs : List (Int × Int)) (n : Nat) (w : World) (h : Rd2 w A m xs) (hm : m ≤ 40) (hv : xs.all okE = true) (hn : n ≤ 10) : Calls Try.prog 63 #[.slice A m c, .int .i64 n] w (ExOut (movedP xs n) w) := by
  obtain ⟨S, hS⟩ : ∃ S, movedP xs n = S := ⟨_, rfl⟩
  rw [hS]
  have HS := Lib.hid hS; have HV := Lib.hid hv; have HL := Lib.hid h.len
  have H := Lib.hid h
  have B0 := Lib.hid (show Below w.heap.size w (w.alloc (.cells #[] 49)) from below_size.alloc (Nat.le_refl _) _)
  clear hS hv h
  go_enter Try.func63, Try.ntmps63
  go_wp2_with fail
  go_loopw [5, 6] (fun ov kv wr => ∃ (k mm cc : Nat) (O : Option Addr) (b : List (Int × Int)), k ≤ m ∧ mm ≤ 12 * k ∧ kv = .int .i64 k ∧ ov = .slice O mm cc ∧ Hid (Own wr w.heap.size 49 2 O mm cc (b.flatMap enc2)) ∧ Hid (b ++ movedP (xs.drop k) n = S) ∧ Below w.heap.size w wr) (fun _ kv _ => m - (intOf kv).toNat)
  case atStart => exact ⟨0, 0, 0, some ⟨w.heap.size, 0, none⟩, [], by omega, by omega, rfl, rfl, Own.litK (Nat.le_refl _), HS.out, B0.out⟩
  case round =>
    obtain ⟨k, mm, cc, O, b, hkm, hmk, rfl, rfl, hO, hr, hb⟩ := hrel
    have HB := Lib.hid hb
    have hzr := hb.size
    by_cases hlt : k < m
    · obtain ⟨ad, y, rfl, hab, hy, hc0, hc1⟩ := (H.out.below hb).at_ hlt
      have hoky := okE_bd (List.all_eq_true.1 HV.out _ (List.mem_of_getElem? hy))
      obtain ⟨t, v0⟩ := y
      simp only at hc0 hc1 hoky
      obtain ⟨v, rfl⟩ : ∃ v : Nat, v0 = v := ⟨v0.toNat, by omega⟩
      have HR := Lib.hid (show b ++ ((if t = 1 then placeP v n else [(t, (v : Int))]) ++ movedP (xs.drop (k + 1)) n) = S by rw [← hr.out, drop_at hy, movedP_cons]; simp)
      clear hb hy hr
      by_cases h1 : t = 1
      · subst h1
        have HG := Lib.hid (show (b ++ placeP v n) ++ movedP (xs.drop (k + 1)) n = S by rw [← HR.out, if_pos rfl, List.append_assoc])
        have hpl := placeP_len v n
        go_wp2_with (first
          | (go_at_call 64; refine (l23Place_c v n wr (by omega) hn).mono ?_; rintro e w3 ⟨A3, m3, c3, rfl, hw3, hc3, hb3⟩; have hml := wr_len2 hw3; have R3 := Lib.hid (show Rd2 w3 A3 m3 (placeP v n) from hw3.rd); have E3 := Lib.hid (below_chain HB.out hzr hb3); have O3 := Lib.hid (hO.out.keep hb3); have hz3 := E3.out.size)
          | (at_builtin; refine wp_appExpr (by rfl) _ _ (by rfl) w.heap.size _ _ _ _ (by rfl) (by exact O3.out) _ _ _ (placeP v n) (by rfl) (by exact R3.out) (by omega) (by omega) ?_; intro A4 c4 w4 own4 hb4 hk4 hg4 hz4))
        rw [← List.flatMap_append] at own4
        have O4 := Lib.hid own4; have B4 := Lib.hid (E3.out.trans hb4)
        clear own4 hb4 hk4 hg4 hz4
        go_roundw
        case rel => exact ⟨k + 1, mm + m3, c4, A4, b ++ placeP v n, by omega, by omega, by go_num, rfl, O4.out, HG.out, B4.out⟩
        case measure => simp [intOf]; omega
      · have g1 : (t == 1) = false := by simpa using h1
        have HG := Lib.hid (show (b ++ [(t, (v : Int))]) ++ movedP (xs.drop (k + 1)) n = S by rw [← HR.out, if_neg h1, List.append_assoc])
        go_wp2_with (at_builtin; refine wp_appExpr (by rfl) _ _ (by rfl) w.heap.size _ _ _ _ (by rfl) (by exact hO.out.alloc _) _ _ _ ([(t, (v : Int))]) (by rfl) (by exact rd_newE ([(t, (v : Int))]) _ rfl rfl) (by omega) (by first | omega | (simp; omega) | (simp; done)) ?_; intro A4 c4 w4 own4 hb4 hk4 hg4 hz4)
        rw [← List.flatMap_append] at own4
        have O4 := Lib.hid own4; have B4 := Lib.hid ((HB.out.alloc hzr _).trans hb4)
        clear own4 hb4 hk4 hg4 hz4
        go_roundw
        case rel => exact ⟨k + 1, mm + 1, c4, A4, b ++ [(t, (v : Int))], by omega, by omega, by go_num, rfl, O4.out, HG.out, B4.out⟩
        case measure => simp [intOf]; omega
    · have HR := Lib.hid (show b = S by rw [← hr.out, List.drop_eq_nil_of_le (by rw [HL.out]; omega)]; simp [movedP])
      have hcap := hO.out.cap
      clear hb hr
      go_wp2_with fail
      go_ret
      rw [← HR.out]
      exact ⟨O, mm, cc, rfl, hO.out.wrK, hcap, HB.out⟩
theorem packedP_cons (x : List (Int × Int)) (l : List (List (Int × Int))) : packedP (x :: l) = (if l = [] then [] else [((2 : Int), (0 : Int))]) ++ x ++ packedP l := by
  cases l with
  | nil => simp [packedP]
  | cons y l => rw [packedP_two]; simp
set_option maxHeartbeats 4000000 in
set_option maxRecDepth 100000 in
theorem l23Packed_c (A : Option Addr) (m c : Nat) (its : List ItV) (ls : List (List (Int × Int))) (w : World) (h : RdV w 2 A m its) (hv : its.map ItV.vs = ls.map (·.flatMap enc2)) (hm : m ≤ 10) (hn : ∀ t ∈ its, t.n ≤ 1000) : Calls Try.prog 62 #[.slice A m c] w (ExOut (packedP ls) w) := by
  obtain ⟨S, hS⟩ : ∃ S, packedP ls = S := ⟨_, rfl⟩
  rw [hS]
  have hll : ls.length = m := by have h1 := congrArg List.length hv; have h2 := h.len; simp at h1; omega
  have HS := Lib.hid hS; have HV := Lib.hid hv; have HL := Lib.hid hll; have HN := Lib.hid hn
  have H := Lib.hid h
  have B0 := Lib.hid (show Below w.heap.size w (w.alloc (.cells #[] 49)) from below_size.alloc (Nat.le_refl _) _)
  clear hS hv h hn hll
  go_enter Try.func62, Try.ntmps62
  go_wp2_with fail
  go_loopw [3, 4] (fun ov kv wr => ∃ (k mm cc : Nat) (O : Option Addr) (b : List (Int × Int)), k ≤ m ∧ mm ≤ 1001 * k ∧ kv = .int .i64 k ∧ ov = .slice O mm cc ∧ Hid (Own wr w.heap.size 49 2 O mm cc (b.flatMap enc2)) ∧ Hid (b ++ packedP (ls.drop k) = S) ∧ Below w.heap.size w wr) (fun _ kv _ => m - (intOf kv).toNat)
  case atStart => exact ⟨0, 0, 0, some ⟨w.heap.size, 0, none⟩, [], by omega, by omega, rfl, rfl, Own.litK (Nat.le_refl _), HS.out, B0.out⟩
  case round =>
    obtain ⟨k, mm, cc, O, b, hkm, hmk, rfl, rfl, hO, hr, hb⟩ := hrel
    have HB := Lib.hid hb
    have hzr := hb.size
    by_cases hlt : k < m
    · obtain ⟨ad, t, rfl, ht, hcw, hrd, _⟩ := H.out.at_ hlt
      have hc := keepc hb hcw
      have htn := HN.out t (List.mem_of_getElem? ht)
      obtain ⟨x, hx⟩ : ∃ x, ls[k]? = some x := ⟨_, List.getElem?_eq_getElem (by rw [HL.out]; exact hlt)⟩
      have hvx : t.vs = x.flatMap enc2 := by
        have := congrArg (fun l => l[k]?) HV.out
        simpa [ht, hx] using this
      obtain ⟨tA, tn, tc, tv⟩ := t
      simp only at hc hcw hrd htn hvx
      subst hvx
      have RX := Lib.hid (show Rd2 w tA tn x from hrd)
      have HCW := Lib.hid hcw
      have HR := Lib.hid (show b ++ ((if ls.drop (k + 1) = [] then [] else [((2 : Int), (0 : Int))]) ++ x ++ packedP (ls.drop (k + 1))) = S by rw [← hr.out, drop_at hx, packedP_cons])
      clear hb hr hrd ht hx hcw
      by_cases hk1 : k + 1 < m
      · have HG := Lib.hid (show (b ++ [((2 : Int), (0 : Int))] ++ x) ++ packedP (ls.drop (k + 1)) = S by
          rw [← HR.out, if_neg (by intro e; have := congrArg List.length e; rw [List.length_drop, HL.out] at this; simp at this; omega)]; simp)
        have k1 : decide ((k : Int) + 1 < (m : Int)) = true := by rw [decide_eq_true_eq]; omega
        go_wp2_with (first
          | (at_builtin; refine wp_appExpr (by rfl) _ _ (by rfl) w.heap.size O mm cc (b.flatMap enc2) (by rfl) (by exact hO.out.alloc _) (some ⟨wr.heap.size, 0, none⟩) 1 1 [(2, 0)] (by rfl) (by exact rd_newE [(2, 0)] _ rfl rfl) (by omega) (by simp; omega) ?_; intro A4 c4 w4 own4 hb4 hk4 hg4 hz4; (rw [← List.flatMap_append] at own4); have O4 := Lib.hid own4; have B4 := Lib.hid ((HB.out.alloc hzr _).trans hb4); have d4 := keepc B4.out HCW.out; clear own4 hk4 hg4 hb4)
          | (at_builtin; refine wp_appExpr (by rfl) _ _ (by rfl) w.heap.size A4 (mm + 1) c4 ((b ++ [((2 : Int), (0 : Int))]).flatMap enc2) (by rfl) (by exact O4.out) tA tn tc x (by rfl) (by exact RX.out.below B4.out) (by omega) (by exact B4.out.size) ?_; intro A5 c5 w5 own5 hb5 hk5 hg5 hz5))
        rw [← List.flatMap_append] at own5
        have O5 := Lib.hid own5; have B5 := Lib.hid (B4.out.trans hb5)
        clear own5 hb5 hk5 hg5 hz5
        go_roundw
        case rel => exact ⟨k + 1, mm + 1 + tn, c5, A5, b ++ [(2, 0)] ++ x, by omega, by omega, by go_num, rfl, O5.out, HG.out, B5.out⟩
        case measure => simp [intOf]; omega
      · have HG := Lib.hid (show (b ++ x) ++ packedP (ls.drop (k + 1)) = S by
          rw [← HR.out, if_pos (List.drop_eq_nil_of_le (by rw [HL.out]; omega))]; simp)
        have k1 : decide ((k : Int) + 1 < (m : Int)) = false := by rw [decide_eq_false_iff_not]; omega
        go_wp2_with (at_builtin; refine wp_appExpr (by rfl) _ _ (by rfl) w.heap.size O mm cc (b.flatMap enc2) (by rfl) (by exact hO.out) tA tn tc x (by rfl) (by exact RX.out.below HB.out) (by omega) (by exact hzr) ?_; intro A5 c5 w5 own5 hb5 hk5 hg5 hz5)
        rw [← List.flatMap_append] at own5
        have O5 := Lib.hid own5; have B5 := Lib.hid (HB.out.trans hb5)
        clear own5 hb5 hk5 hg5 hz5
        go_roundw
        case rel => exact ⟨k + 1, mm + tn, c5, A5, b ++ x, by omega, by omega, by go_num, rfl, O5.out, HG.out, B5.out⟩
        case measure => simp [intOf]; omega
    · have HR := Lib.hid (show b = S by rw [← hr.out, List.drop_eq_nil_of_le (by rw [HL.out]; omega)]; simp [packedP])
      have hcap := hO.out.cap
      clear hb hr
      go_wp2_with fail
      go_ret
      rw [← HR.out]
      exact ⟨O, mm, cc, rfl, hO.out.wrK, hcap, HB.out⟩
theorem l22Set_c (k : Int) (A : Option Addr) (n c : Nat) (w : World) : Calls Try.prog 61 #[.int .i64 k, .slice A n c] w fun e w' => e = .returned (.agg #[.int .i64 0, .int .i64 k, .int .i64 0, .slice A n c]) ∧ Below w.heap.size w w' := by
  go_enter Try.func61, Try.ntmps61
  go_wp2_with fail
  have e0 : (w.alloc (.cells #[.int .i64 0, .int .i64 k, .int .i64 0, .slice A n c] 46)).cell? ⟨w.heap.size, 0, none⟩ = some (.int .i64 0) := new_cell _ _ _ 0
  have e1 : (w.alloc (.cells #[.int .i64 0, .int .i64 k, .int .i64 0, .slice A n c] 46)).cell? ⟨w.heap.size, 1, none⟩ = some (.int .i64 k) := new_cell _ _ _ 1
  have e2 : (w.alloc (.cells #[.int .i64 0, .int .i64 k, .int .i64 0, .slice A n c] 46)).cell? ⟨w.heap.size, 2, none⟩ = some (.int .i64 0) := new_cell _ _ _ 2
  have e3 : (w.alloc (.cells #[.int .i64 0, .int .i64 k, .int .i64 0, .slice A n c] 46)).cell? ⟨w.heap.size, 3, none⟩ = some (.slice A n c) := new_cell _ _ _ 3
  refine bodyPost_ret (v := .agg #[.int .i64 0, .int .i64 k, .int .i64 0, .slice A n c]) (by simp [results, Try.results61, go_sem]) rfl ?_
  exact ⟨rfl, below_size.alloc (Nat.le_refl _) _⟩
theorem setTo_c (k : Int) (A : Option Addr) (n c : Nat) (w : World) : Calls Try.prog 67 #[.int .i64 k, .slice A n c] w fun e w' => e = .returned (.agg #[.int .i64 0, .int .i64 k, .int .i64 0, .slice A n c]) ∧ Below w.heap.size w w' := by
  go_enter Try.func67, Try.ntmps67
  go_wp2_with fail
  have e0 : (w.alloc (.cells #[.int .i64 0, .int .i64 k, .int .i64 0, .slice A n c] 46)).cell? ⟨w.heap.size, 0, none⟩ = some (.int .i64 0) := new_cell _ _ _ 0
  have e1 : (w.alloc (.cells #[.int .i64 0, .int .i64 k, .int .i64 0, .slice A n c] 46)).cell? ⟨w.heap.size, 1, none⟩ = some (.int .i64 k) := new_cell _ _ _ 1
  have e2 : (w.alloc (.cells #[.int .i64 0, .int .i64 k, .int .i64 0, .slice A n c] 46)).cell? ⟨w.heap.size, 2, none⟩ = some (.int .i64 0) := new_cell _ _ _ 2
  have e3 : (w.alloc (.cells #[.int .i64 0, .int .i64 k, .int .i64 0, .slice A n c] 46)).cell? ⟨w.heap.size, 3, none⟩ = some (.slice A n c) := new_cell _ _ _ 3
  refine bodyPost_ret (v := .agg #[.int .i64 0, .int .i64 k, .int .i64 0, .slice A n c]) (by simp [results, Try.results67, go_sem]) rfl ?_
  exact ⟨rfl, below_size.alloc (Nat.le_refl _) _⟩
theorem l00Max_c (a b : Int) (w : World) : Calls Try.prog 84 #[.int .i64 a, .int .i64 b] w fun e w' => e = .returned (.int .i64 (if a > b then a else b)) ∧ w = w' := by
  by_cases h : b < a
  · have g : decide (b < a) = true := by rw [decide_eq_true_eq]; exact h
    go_enter Try.func84, Try.ntmps84
    go_wp2_with fail
    go_ret
    exact ⟨rfl, rfl⟩
  · have g : decide (b < a) = false := by rw [decide_eq_false_iff_not]; exact h
    go_enter Try.func84, Try.ntmps84
    go_wp2_with fail
    go_ret
    exact ⟨rfl, rfl⟩
set_option maxHeartbeats 4000000 in
set_option maxRecDepth 100000 in
theorem l23Many_c (A : Option Addr) (n c : Nat) (ps : List Ct) (D : List Cmd) (T : Int) (w : World) (h : RdS w (sgCS A n ps)) (hD : ps.map datC = D) (hv : validW D = true) (hT : topW D = T) :
    Calls Try.prog 60 #[.slice A n c] w fun e w' => e = .returned (.int .i64 T) ∧ Below w.heap.size w w' := by
  have hl := RdCS.len h
  obtain ⟨hv1, hv2⟩ := validW_all hv
  have hn80 : n ≤ 80 := by rw [← hl, ← List.length_map (f := datC), hD]; exact hv1
  have HD := Lib.hid hD; have HV2 := Lib.hid hv2
  have HDL := Lib.hid (show D.length = n by rw [← hD, List.length_map, hl])
  have HT := Lib.hid (show topV (varsW (D.drop 0)) 0 = T from hT)
  have H := Lib.hid h
  clear hl hv hv1 hv2 hD hT h
  go_enter Try.func60, Try.ntmps60
  go_wp2_with fail
  go_loopw [3, 4] (fun nv iv wr => ∃ (i : Nat) (nn : Int), i ≤ n ∧ 0 ≤ nn ∧ nn ≤ 6 ∧ iv = .int .i64 i ∧ nv = .int .i64 nn ∧ Hid (topV (varsW (D.drop i)) nn = T) ∧ Below w.heap.size w wr) (fun _ iv _ => n - (intOf iv).toNat)
  case atStart => exact ⟨0, 0, by omega, by omega, by omega, rfl, rfl, HT.out, below_size⟩
  case round =>
    obtain ⟨i, nn, hin, hn0, hn6, rfl, rfl, hr, hb⟩ := hrel
    have HB := Lib.hid hb
    by_cases hlt : i < n
    · obtain ⟨ad, t, rfl, hab, ht, hc0, hc1, hc2, hc3, hrd⟩ := RdCS.at_ (H.out.below hb) hlt
      have hx : D[i]? = some (datC t) := by rw [← HD.out, List.getElem?_map, ht]; rfl
      obtain ⟨e1, e2, e3⟩ := HV2.out (datC t) (List.mem_of_getElem? hx)
      have hrx : Rd2 wr t.A t.n t.xs := hrd.head
      obtain ⟨kd, vr, ln, xA, xn, xc, xs⟩ := t
      simp only [datC] at hx e1 e2 e3
      simp only at hc0 hc1 hc2 hc3 hrx
      have HR := Lib.hid (show topV (varsW1 (kd, vr, ln, xs) ++ varsW (D.drop (i + 1))) nn = T by rw [← hr.out, drop_at hx]; rfl)
      have hvb := inB_t e3
      have HX4 := Lib.hid (validE_end e1).2.2.2
      have hx40 : xn ≤ 40 := by rw [← hrx.len]; exact (validE_end e1).2.2.1
      have HXL := Lib.hid (show xs.length = xn from hrx.len)
      have RX := Lib.hid hrx
      clear hb hr ht hx hrd hrx e1 e2 e3
      by_cases hk0 : kd = 0
      · subst hk0
        obtain ⟨N1, hN1⟩ : ∃ N1, (if nn > vr + 1 then nn else vr + 1) = N1 := ⟨_, rfl⟩
        have hN0 : 0 ≤ N1 := by rw [← hN1]; split <;> omega
        have hN6 : N1 ≤ 6 := by rw [← hN1]; split <;> omega
        have HM := Lib.hid (show ∀ w, Calls Try.prog 84 #[.int .i64 nn, .int .i64 (vr + 1)] w fun e w' => e = .returned (.int .i64 N1) ∧ w = w' from fun w => by rw [← hN1]; exact l00Max_c nn (vr + 1) w)
        have HG := Lib.hid (show topV (varsE xs ++ varsW (D.drop (i + 1))) N1 = T by rw [← HR.out, ← hN1]; simp [varsW1, topV_cons])
        clear hN1
        go_wp2_with (go_at_call 84; refine (HM.out _).mono ?_; rintro e w' ⟨rfl, rfl⟩)
        go_loopw [3, 5] (fun nv kv wx => ∃ (k : Nat) (mm : Int), k ≤ xn ∧ 0 ≤ mm ∧ mm ≤ 6 ∧ kv = .int .i64 k ∧ nv = .int .i64 mm ∧ Hid (topV (varsE (xs.drop k) ++ varsW (D.drop (i + 1))) mm = T) ∧ wx = wr) (fun _ kv _ => xn - (intOf kv).toNat)
        case atStart => exact ⟨0, N1, by omega, by omega, by omega, rfl, rfl, HG.out, rfl⟩
        case round =>
          obtain ⟨k, mm, hkx, hm0, hm6, rfl, rfl, hr5, rfl⟩ := hrel
          by_cases hltk : k < xn
          · obtain ⟨ax, y, rfl, hay, hy, hy0, hy1⟩ := RX.out.at_ hltk
            have hoky := okE_bd (List.all_eq_true.1 HX4.out _ (List.mem_of_getElem? hy))
            obtain ⟨t, v⟩ := y
            simp only at hy0 hy1 hoky
            have HR5 := Lib.hid (show topV ((varsE ((t, v) :: xs.drop (k + 1))) ++ varsW (D.drop (i + 1))) mm = T by rw [← hr5.out, drop_at hy])
            clear hr5 hy
            by_cases h1 : t = 1
            · subst h1
              obtain ⟨N2, hN2⟩ : ∃ N2, (if mm > v + 1 then mm else v + 1) = N2 := ⟨_, rfl⟩
              have hN20 : 0 ≤ N2 := by rw [← hN2]; split <;> omega
              have hN26 : N2 ≤ 6 := by rw [← hN2]; split <;> omega
              have HM2 := Lib.hid (show ∀ w, Calls Try.prog 84 #[.int .i64 mm, .int .i64 (v + 1)] w fun e w' => e = .returned (.int .i64 N2) ∧ w = w' from fun w => by rw [← hN2]; exact l00Max_c mm (v + 1) w)
              have HG5 := Lib.hid (show topV (varsE (xs.drop (k + 1)) ++ varsW (D.drop (i + 1))) N2 = T by rw [← HR5.out, ← hN2]; simp [varsE, topV_cons])
              clear hN2
              go_wp2_with (go_at_call 84; refine (HM2.out _).mono ?_; rintro e w' ⟨rfl, rfl⟩)
              go_roundw
              case rel => exact ⟨k + 1, N2, by omega, by omega, by omega, by go_num, rfl, HG5.out, (by first | rfl | trivial)⟩
              case measure => simp [intOf]; omega
            · have g1 : (t == 1) = false := by simpa using h1
              have HG5 := Lib.hid (show topV (varsE (xs.drop (k + 1)) ++ varsW (D.drop (i + 1))) mm = T by rw [← HR5.out]; simp [varsE, h1])
              go_wp2_with fail
              go_roundw
              case rel => exact ⟨k + 1, mm, by omega, by omega, by omega, by go_num, rfl, HG5.out, (by first | rfl | trivial)⟩
              case measure => simp [intOf]; omega
          · have HG5 := Lib.hid (show topV (varsW (D.drop (i + 1))) mm = T by rw [← hr5.out, show xs.drop k = [] from List.drop_eq_nil_of_le (by rw [HXL.out]; omega)]; rfl)
            clear hr5
            go_wp2_with fail
            go_roundw
            case rel => exact ⟨i + 1, mm, by omega, by omega, by omega, by go_num, rfl, HG5.out, HB.out⟩
            case measure => simp [intOf]; omega
      · have g0 : (kd == 0) = false := by simpa using hk0
        have HG := Lib.hid (show topV (varsE xs ++ varsW (D.drop (i + 1))) nn = T by rw [← HR.out]; simp [varsW1, hk0])
        go_wp2_with fail
        go_loopw [3, 5] (fun nv kv wx => ∃ (k : Nat) (mm : Int), k ≤ xn ∧ 0 ≤ mm ∧ mm ≤ 6 ∧ kv = .int .i64 k ∧ nv = .int .i64 mm ∧ Hid (topV (varsE (xs.drop k) ++ varsW (D.drop (i + 1))) mm = T) ∧ wx = wr) (fun _ kv _ => xn - (intOf kv).toNat)
        case atStart => exact ⟨0, nn, by omega, by omega, by omega, rfl, rfl, HG.out, rfl⟩
        case round =>
          obtain ⟨k, mm, hkx, hm0, hm6, rfl, rfl, hr5, rfl⟩ := hrel
          by_cases hltk : k < xn
          · obtain ⟨ax, y, rfl, hay, hy, hy0, hy1⟩ := RX.out.at_ hltk
            have hoky := okE_bd (List.all_eq_true.1 HX4.out _ (List.mem_of_getElem? hy))
            obtain ⟨t, v⟩ := y
            simp only at hy0 hy1 hoky
            have HR5 := Lib.hid (show topV ((varsE ((t, v) :: xs.drop (k + 1))) ++ varsW (D.drop (i + 1))) mm = T by rw [← hr5.out, drop_at hy])
            clear hr5 hy
            by_cases h1 : t = 1
            · subst h1
              obtain ⟨N2, hN2⟩ : ∃ N2, (if mm > v + 1 then mm else v + 1) = N2 := ⟨_, rfl⟩
              have hN20 : 0 ≤ N2 := by rw [← hN2]; split <;> omega
              have hN26 : N2 ≤ 6 := by rw [← hN2]; split <;> omega
              have HM2 := Lib.hid (show ∀ w, Calls Try.prog 84 #[.int .i64 mm, .int .i64 (v + 1)] w fun e w' => e = .returned (.int .i64 N2) ∧ w = w' from fun w => by rw [← hN2]; exact l00Max_c mm (v + 1) w)
              have HG5 := Lib.hid (show topV (varsE (xs.drop (k + 1)) ++ varsW (D.drop (i + 1))) N2 = T by rw [← HR5.out, ← hN2]; simp [varsE, topV_cons])
              clear hN2
              go_wp2_with (go_at_call 84; refine (HM2.out _).mono ?_; rintro e w' ⟨rfl, rfl⟩)
              go_roundw
              case rel => exact ⟨k + 1, N2, by omega, by omega, by omega, by go_num, rfl, HG5.out, (by first | rfl | trivial)⟩
              case measure => simp [intOf]; omega
            · have g1 : (t == 1) = false := by simpa using h1
              have HG5 := Lib.hid (show topV (varsE (xs.drop (k + 1)) ++ varsW (D.drop (i + 1))) mm = T by rw [← HR5.out]; simp [varsE, h1])
              go_wp2_with fail
              go_roundw
              case rel => exact ⟨k + 1, mm, by omega, by omega, by omega, by go_num, rfl, HG5.out, (by first | rfl | trivial)⟩
              case measure => simp [intOf]; omega
          · have HG5 := Lib.hid (show topV (varsW (D.drop (i + 1))) mm = T by rw [← hr5.out, show xs.drop k = [] from List.drop_eq_nil_of_le (by rw [HXL.out]; omega)]; rfl)
            clear hr5
            go_wp2_with fail
            go_roundw
            case rel => exact ⟨i + 1, mm, by omega, by omega, by omega, by go_num, rfl, HG5.out, HB.out⟩
            case measure => simp [intOf]; omega
    · have HR := Lib.hid (show nn = T by rw [← hr.out, List.drop_eq_nil_of_le (by rw [HDL.out]; omega)]; rfl)
      clear hb hr
      go_wp2_with fail
      go_ret
      exact ⟨by rw [← HR.out]; rfl, HB.out⟩
end Go.Proofs.Ytecpbgmcednpoaa
