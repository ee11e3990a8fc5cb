/-
  Texts of while programs, in plain Lean. Nothing of the program.
-/
import Derived.Test.YtkchgjegdmcnaaaDoorPWf
import Derived.Test.YtkchgjegdmcnaaaDoorCTb
namespace Go.Proofs.YtkchgjegdmcnaaaDoor
open Go.RowKit

/-! ### the text of an expression -/
def binT (k : Int) : UInt8 := if k = 2 then 46 else 63
def exT : Nat → List (Int × Int) → List UInt8
  | 0, _ => []
  | _ + 1, [] => []
  | N + 1, x :: l => if x.1 = 0 then [110] else if x.1 = 1 then Lib.itoa x.2 else if x.1 = 3 then 104 :: exT N l else if x.1 = 4 then 116 :: exT N l
      else 40 :: (exT N (l.take (endM l)) ++ binT x.1 :: (exT N (l.drop (endM l)) ++ [41]))
/-- the reference's stack -/
def putT (x : Int × Int) (st : List (List UInt8)) : List (List UInt8) :=
  if x.1 = 0 then [110] :: st else if x.1 = 1 then Lib.itoa x.2 :: st else if x.1 = 3 then (104 :: st.getD 0 []) :: st.drop 1 else if x.1 = 4 then (116 :: st.getD 0 []) :: st.drop 1
  else (40 :: (st.getD 0 [] ++ binT x.1 :: (st.getD 1 [] ++ [41]))) :: st.drop 2
def stT : List (Int × Int) → List (List UInt8)
  | [] => []
  | x :: l => putT x (stT l)
theorem okE_kind {x : Int × Int} (h : okE x = true) : 0 ≤ x.1 ∧ x.1 ≤ 5 ∧ 0 ≤ x.2 ∧ x.2 ≤ 5 := by
  simp only [okE, Bool.and_eq_true] at h
  have h1 := inB_t h.1.1; have h2 := inB_t h.1.2
  omega
theorem itoa_one {x : Int} (h : 0 ≤ x ∧ x ≤ 9) : (Lib.itoa x).length = 1 := by rw [itoa_dig h]; rfl
theorem all_cons {x : Int × Int} {l : List (Int × Int)} (h : (x :: l).all okE = true) : okE x = true ∧ l.all okE = true := by simpa using h
theorem all_take {l : List (Int × Int)} (h : l.all okE = true) (k : Nat) : (l.take k).all okE = true := by
  rw [List.all_eq_true] at h ⊢; exact fun x hx => h x (List.mem_of_mem_take hx)
theorem all_drop {l : List (Int × Int)} (h : l.all okE = true) (k : Nat) : (l.drop k).all okE = true := by
  rw [List.all_eq_true] at h ⊢; exact fun x hx => h x (List.mem_of_mem_drop hx)
theorem stT_app : ∀ (N : Nat) (a b : List (Int × Int)), isE a → a.all okE = true → a.length ≤ N → stT (a ++ b) = exT N a :: stT b
  | 0, a, b, h, _, hN => by have := isE_pos h; omega
  | N + 1, a, b, h, ho, hN => by
    obtain ⟨x, l, rfl⟩ := isE_ne h
    obtain ⟨hx, hl⟩ := all_cons ho
    have hk := okE_kind hx
    rw [List.length_cons] at hN
    rw [List.cons_append, stT, exT]
    by_cases h0 : x.1 = 0
    · have e := isE_leaf h (many_zero (by omega) (by omega))
      subst e
      rw [putT, if_pos h0, if_pos h0, List.nil_append]
    by_cases h1 : x.1 = 1
    · have e := isE_leaf h (many_zero (by omega) (by omega))
      subst e
      rw [putT, if_neg h0, if_pos h1, if_neg h0, if_pos h1, List.nil_append]
    by_cases h3 : x.1 = 3
    · rw [putT, if_neg h0, if_neg h1, if_pos h3, if_neg h0, if_neg h1, if_pos h3, stT_app N l b ((isE_un (many_un.2 (.inl h3))).1 h) hl (by omega)]; rfl
    by_cases h4 : x.1 = 4
    · rw [putT, if_neg h0, if_neg h1, if_neg h3, if_pos h4, if_neg h0, if_neg h1, if_neg h3, if_pos h4, stT_app N l b ((isE_un (many_un.2 (.inr h4))).1 h) hl (by omega)]; rfl
    · obtain ⟨_, e1, e2, e3, e4⟩ := isE_two h (many_two.2 (by omega))
      rw [putT, if_neg h0, if_neg h1, if_neg h3, if_neg h4, if_neg h0, if_neg h1, if_neg h3, if_neg h4]
      have e5 : stT (l ++ b) = exT N (l.take (endM l)) :: exT N (l.drop (endM l)) :: stT b := by
        have e6 : l ++ b = l.take (endM l) ++ (l.drop (endM l) ++ b) := by rw [← List.append_assoc, List.take_append_drop]
        rw [e6, stT_app N _ _ e3 (all_take hl _) (by rw [List.length_take]; omega), stT_app N _ _ e4 (all_drop hl _) (by rw [List.length_drop]; omega)]
      rw [e5]; rfl
theorem putT_len {x : Int × Int} {st : List (List UInt8)} (h : okE x = true) (_hm : manyE x.1 ≤ st.length) : (putT x st).length = st.length - manyE x.1 + 1 := by
  have hk := okE_kind h
  unfold putT
  by_cases h0 : x.1 = 0
  · rw [if_pos h0, many_zero (by omega) (by omega)]; simp
  by_cases h1 : x.1 = 1
  · rw [if_neg h0, if_pos h1, many_zero (by omega) (by omega)]; simp
  by_cases h3 : x.1 = 3
  · rw [if_neg h0, if_neg h1, if_pos h3, many_un.2 (.inl h3)]; simp
  by_cases h4 : x.1 = 4
  · rw [if_neg h0, if_neg h1, if_neg h3, if_pos h4, many_un.2 (.inr h4)]; simp
  · rw [if_neg h0, if_neg h1, if_neg h3, if_neg h4, many_two.2 (by omega)]; simp
theorem stT_len : ∀ {l : List (Int × Int)} {k : Nat}, l.all okE = true → endP manyE l k = some l.length → (stT l).length = k
  | [], 0, _, _ => rfl
  | [], k + 1, _, h => by cases h
  | x :: l, 0, _, h => by rw [endP_zero] at h; simp at h
  | x :: l, k + 1, ho, h => by
    obtain ⟨hx, hl⟩ := all_cons ho
    rw [endP_cons] at h
    have h' : endP manyE l (k + manyE x.1) = some l.length := by
      obtain ⟨q, hq, e⟩ := Option.map_eq_some_iff.1 h
      rw [List.length_cons] at e
      rw [hq]; congr 1; omega
    have h2 := stT_len hl h'
    rw [stT, putT_len hx (by omega)]; omega
theorem suf_end : ∀ {l : List (Int × Int)} {k i : Nat}, endP manyE l k = some l.length → i ≤ l.length → ∃ q, endP manyE (l.drop i) q = some (l.drop i).length
  | l, k, 0, h, _ => ⟨k, h⟩
  | [], k, i + 1, h, hi => by simp at hi
  | x :: l, 0, i + 1, h, hi => by rw [endP_zero] at h; simp at h
  | x :: l, k + 1, i + 1, h, hi => by
    rw [endP_cons] at h
    have h' : endP manyE l (k + manyE x.1) = some l.length := by
      obtain ⟨q, hq, e⟩ := Option.map_eq_some_iff.1 h
      rw [List.length_cons] at e
      rw [hq]; congr 1; omega
    rw [List.drop_succ_cons]
    exact suf_end h' (by rw [List.length_cons] at hi; omega)
/-- at each place the stack holds the operands -/
theorem stT_many {e : List (Int × Int)} {i : Nat} {x : Int × Int} (h : isE e) (ho : e.all okE = true) (hx : e[i]? = some x) : manyE x.1 ≤ (stT (e.drop (i + 1))).length := by
  obtain ⟨hi, _⟩ := List.getElem?_eq_some_iff.1 hx
  obtain ⟨q, hq⟩ := suf_end (i := i) h (by omega)
  rw [drop_at hx] at hq
  cases q with
  | zero => rw [endP_zero] at hq; simp at hq
  | succ q =>
    rw [endP_cons] at hq
    have h' : endP manyE (e.drop (i + 1)) (q + manyE x.1) = some (e.drop (i + 1)).length := by
      obtain ⟨r, hr, e1⟩ := Option.map_eq_some_iff.1 hq
      rw [List.length_cons] at e1
      rw [hr]; congr 1; omega
    rw [stT_len (all_drop ho _) h']; omega
theorem lens_nil : Lib.lens [] = 0 := rfl
theorem lens_cons (a : List UInt8) (l : List (List UInt8)) : Lib.lens (a :: l) = a.length + Lib.lens l := by simp [Lib.lens]
theorem putT_lens {x : Int × Int} {st : List (List UInt8)} (h : okE x = true) : Lib.lens (putT x st) ≤ Lib.lens st + 3 := by
  have hk := okE_kind h
  have d1 : (st.getD 0 []).length + Lib.lens (st.drop 1) ≤ Lib.lens st := by
    cases st with
    | nil => simp [lens_nil]
    | cons a st => rw [lens_cons]; simp
  have d2 : (st.getD 0 []).length + ((st.getD 1 []).length + Lib.lens (st.drop 2)) ≤ Lib.lens st := by
    cases st with
    | nil => simp [lens_nil]
    | cons a st => cases st with
      | nil => rw [lens_cons]; simp [lens_nil]
      | cons b st => rw [lens_cons, lens_cons]; simp
  unfold putT
  split
  · rw [lens_cons]; simp; omega
  · split
    · rw [lens_cons, itoa_one (by omega)]; omega
    · split
      · rw [lens_cons, List.length_cons]; omega
      · split
        · rw [lens_cons, List.length_cons]; omega
        · rw [lens_cons]; simp only [List.length_cons, List.length_append, List.length_nil]; omega
theorem stT_lens : ∀ {l : List (Int × Int)}, l.all okE = true → Lib.lens (stT l) ≤ 3 * l.length
  | [], _ => by simp [stT, lens_nil]
  | x :: l, h => by
    obtain ⟨hx, hl⟩ := all_cons h
    have h1 := stT_lens hl
    have h2 := putT_lens (st := stT l) hx
    rw [stT, List.length_cons]; omega
theorem lens_at : ∀ {L : List (List UInt8)} {y : List UInt8}, y ∈ L → y.length ≤ Lib.lens L
  | a :: L, y, h => by
    rw [lens_cons]
    rcases List.mem_cons.1 h with rfl | h
    · omega
    · have := lens_at h; omega
theorem exT_len {N : Nat} {e : List (Int × Int)} (h : isE e) (ho : e.all okE = true) (hN : e.length ≤ N) : (exT N e).length ≤ 3 * e.length := by
  have h1 := stT_app N e [] h ho hN
  rw [List.append_nil] at h1
  have h2 := stT_lens ho
  rw [h1, lens_cons] at h2
  omega
theorem exT_fuel {N M : Nat} {e : List (Int × Int)} (h : isE e) (ho : e.all okE = true) (hN : e.length ≤ N) (hM : e.length ≤ M) : exT N e = exT M e := by
  have h1 := stT_app N e [] h ho hN
  have h2 := stT_app M e [] h ho hM
  rw [h1] at h2
  exact (List.cons.inj h2).1
theorem stT_one {e : List (Int × Int)} (h : validE e = true) : stT e = [exT 40 e] := by
  obtain ⟨h1, h2, h3, h4⟩ := validE_end h
  have := stT_app 40 e [] h1 h4 h3
  rwa [List.append_nil] at this

/-! ### the texts of commands -/
def whL : List Cmd → List (List UInt8)
  | [] => []
  | c :: l => if c.1 = 0 then (Lib.itoa c.2.1 ++ 61 :: exT 40 c.2.2.2) :: whL l
      else (119 :: (exT 40 c.2.2.2 ++ 123 :: (Lib.join (whL (l.take c.2.2.1.toNat)) [59] ++ [125]))) :: whL (l.drop c.2.2.1.toNat)
termination_by l => l.length
decreasing_by all_goals simp; try omega
theorem whL_nil : whL [] = [] := by rw [whL]
theorem whL_set (v n : Int) (x : List (Int × Int)) (l : List Cmd) : whL ((0, v, n, x) :: l) = (Lib.itoa v ++ 61 :: exT 40 x) :: whL l := by rw [whL]; rfl
theorem whL_while (v : Int) (n : Nat) (x : List (Int × Int)) (l : List Cmd) : whL ((1, v, (n : Int), x) :: l) = (119 :: (exT 40 x ++ 123 :: (Lib.join (whL (l.take n)) [59] ++ [125]))) :: whL (l.drop n) := by rw [whL]; rfl
def whT (p : List Cmd) : List UInt8 := Lib.join (whL p) [59]
def whR (p : List Cmd) : List UInt8 := if validW p = true then whT p else []
theorem join_lens (L : List (List UInt8)) (b : UInt8) : (Lib.join L [b]).length ≤ Lib.lens L + L.length := by
  cases L with
  | nil => simp [Lib.join_nil]
  | cons x r => rw [Lib.join_length, lens_cons, List.length_cons]; simp; simp only [Lib.lens]; omega
/-- the first of valid commands -/
theorem vcL_one {k v n : Int} {x : List (Int × Int)} {l : List Cmd} (h : vcL ((k, v, n, x) :: l) = true) :
    validE x = true ∧ ((k = 0 ∧ 0 ≤ v ∧ v ≤ 5 ∧ n = 0 ∧ vcL l = true) ∨ (k = 1 ∧ v = 0 ∧ ∃ m : Nat, n = m ∧ m ≤ l.length ∧ vcL (l.take m) = true ∧ vcL (l.drop m) = true)) := by
  rw [vcL_cons, Bool.and_eq_true] at h
  refine ⟨h.1, ?_⟩
  by_cases h0 : k = 0
  · rw [if_pos h0] at h
    simp only [Bool.and_eq_true, decide_eq_true_eq] at h
    have := inB_t h.2.1.1
    exact .inl ⟨h0, by omega, by omega, h.2.1.2, h.2.2⟩
  · rw [if_neg h0] at h
    by_cases h1 : k = 1
    · rw [if_pos h1] at h
      simp only [Bool.and_eq_true, decide_eq_true_eq] at h
      have := inB_t h.2.1.1.2
      exact .inr ⟨h1, h.2.1.1.1, n.toNat, by omega, by omega, h.2.1.2, h.2.2⟩
    · rw [if_neg h1] at h
      simp at h
theorem whL_len : ∀ (k : Nat) (p : List Cmd), p.length ≤ k → vcL p = true → Lib.lens (whL p) + (whL p).length ≤ 125 * p.length
  | _, [], _, _ => by rw [whL_nil]; simp [lens_nil]
  | 0, c :: l, hk, _ => by simp at hk
  | k + 1, (kd, v, n, x) :: l, hk, h => by
    rw [List.length_cons] at hk ⊢
    obtain ⟨hv, h1 | h1⟩ := vcL_one h
    · obtain ⟨rfl, v0, v1, rfl, hl⟩ := h1
      obtain ⟨e1, e2, e3, e4⟩ := validE_end hv
      have h2 := exT_len (N := 40) e1 e4 e3
      have h3 := whL_len k l (by omega) hl
      rw [whL_set, lens_cons, List.length_cons, List.length_append, List.length_cons, itoa_one (by omega)]
      omega
    · obtain ⟨rfl, rfl, m, rfl, hm, ha, hb⟩ := h1
      obtain ⟨e1, e2, e3, e4⟩ := validE_end hv
      have h2 := exT_len (N := 40) e1 e4 e3
      have h3 := whL_len k (l.take m) (by rw [List.length_take]; omega) ha
      have h4 := whL_len k (l.drop m) (by rw [List.length_drop]; omega) hb
      have h5 := join_lens (whL (l.take m)) 59
      rw [List.length_take, Nat.min_eq_left hm] at h3
      rw [List.length_drop] at h4
      rw [whL_while, lens_cons, List.length_cons]
      simp only [List.length_cons, List.length_append, List.length_nil]
      omega
theorem whT_len {p : List Cmd} (h : vcL p = true) : (whT p).length ≤ 125 * p.length := by
  have h1 := whL_len _ p (Nat.le_refl _) h
  have h2 := join_lens (whL p) 59
  unfold whT; omega
theorem join_snoc (L : List (List UInt8)) (y : List UInt8) : Lib.join (L ++ [y]) [59] = (if L = [] then [] else Lib.join L [59] ++ [59]) ++ y := by
  have h := join_at [59] (L ++ [y]) L.length y (by rw [List.getElem?_append_right (Nat.le_refl _), Nat.sub_self]; rfl)
  rw [List.take_of_length_le (by simp), List.take_left' rfl] at h
  rw [h]
  cases L with
  | nil => rfl
  | cons a L => rw [if_pos (by simp), if_neg (by simp)]
end Go.Proofs.YtkchgjegdmcnaaaDoor
