/-
  Reading while programs, in plain Lean: what the reference's reader and the program's give, and that they give back a program from its text. Nothing of the program.
-/
import Derived.Test.YtkchgjegdmcnaaaDoorPWt
import GoSem.Conv.StringToRunes
namespace Go.Proofs.YtkchgjegdmcnaaaDoor
open Go.RowKit

/-! ### texts -/
theorem join_cons59 (y : List UInt8) (ys : List (List UInt8)) : Lib.join (y :: ys) [59] = y ++ (if ys = [] then [] else 59 :: Lib.join ys [59]) := by
  cases ys with
  | nil => simp [Lib.join_one]
  | cons z zs => rw [if_neg (by simp), Lib.join_cons, Lib.join_cons]; simp [Lib.joinTail]
theorem whL_ne : ∀ {p : List Cmd}, p ≠ [] → whL p ≠ []
  | [], h => absurd rfl h
  | c :: l, _ => by rw [whL]; split <;> simp
theorem whL_nil_iff {p : List Cmd} : whL p = [] ↔ p = [] := ⟨fun h => Classical.byContradiction fun hn => whL_ne hn h, fun h => by rw [h, whL_nil]⟩
/-- the text behind a command -/
def tailT (p : List Cmd) : List UInt8 := if p = [] then [] else 59 :: whT p
theorem whT_nil : whT [] = [] := by rw [whT, whL_nil, Lib.join_nil]
theorem whT_cons {y : List UInt8} {p q : List Cmd} (h : whL p = y :: whL q) : whT p = y ++ tailT q := by
  rw [whT, h, join_cons59, tailT, whT]
  by_cases hq : q = []
  · rw [if_pos hq, if_pos (whL_nil_iff.2 hq)]
  · rw [if_neg hq, if_neg (fun e => hq (whL_nil_iff.1 e))]
theorem whT_ne : ∀ {p : List Cmd}, whT p = [] → p = []
  | [], _ => rfl
  | c :: l, h => by
    exfalso
    by_cases hc : c.1 = 0
    · have e : whL (c :: l) = (Lib.itoa c.2.1 ++ 61 :: exT 40 c.2.2.2) :: whL l := by rw [whL, if_pos hc]
      rw [whT_cons e] at h
      simp at h
    · have e : whL (c :: l) = (119 :: (exT 40 c.2.2.2 ++ 123 :: (Lib.join (whL (l.take c.2.2.1.toNat)) [59] ++ [125]))) :: whL (l.drop c.2.2.1.toNat) := by rw [whL, if_neg hc]
      rw [whT_cons e] at h
      simp at h
theorem okE_var {x : Int × Int} (h : okE x = true) (h1 : x.1 ≠ 1) : x = (x.1, 0) := by
  simp only [okE, Bool.and_eq_true, Bool.or_eq_true, decide_eq_true_eq] at h
  obtain ⟨a, b⟩ := x
  simp only at h h1 ⊢
  rcases h.2 with h2 | h2
  · exact absurd h2 h1
  · rw [h2]
theorem drop_head {α : Type} {s t : List α} {k : Nat} {c : α} (h : s.drop k = c :: t) : s[k]? = some c ∧ k < s.length ∧ s.drop (k + 1) = t := by
  have hk : k < s.length := by
    rcases Nat.lt_or_ge k s.length with hk | hk
    · exact hk
    · rw [List.drop_eq_nil_of_le hk] at h; cases h
  rw [List.drop_eq_getElem_cons hk] at h
  injection h with h1 h2
  exact ⟨by rw [List.getElem?_eq_getElem hk, h1], hk, h2⟩
theorem drop_app {α : Type} {s a t : List α} {k : Nat} (h : s.drop k = a ++ t) : s.drop (k + a.length) = t := by
  rw [← List.drop_drop, h, List.drop_left]

/-! ### the reference's reader -/
abbrev RdE := List (Int × Int) × Nat × Bool
def pairS (s : List UInt8) (a : RdE) (g : Nat → RdE) (k : Nat) : RdE :=
  if a.2.2 = true ∧ a.2.1 < s.length then
    (if (g a.2.1).2.2 = true ∧ (g a.2.1).2.1 < s.length then (((if s[a.2.1]? = some 63 then 5 else 2), 0) :: (a.1 ++ (g a.2.1).1), (g a.2.1).2.1 + 1, true) else ([], k, false))
  else ([], k, false)
/-- the reference reads an expression at k: what it gives, the offset behind it, whether it is one -/
def sxE (s : List UInt8) : Nat → Nat → RdE
  | 0, k => ([], k, false)
  | d + 1, k => match s[k]? with
    | none => ([], k, false)
    | some c => if 48 ≤ c.toNat ∧ c.toNat ≤ 57 then ([(1, (c.toNat : Int) - 48)], k + 1, true)
      else if c = 110 then ([(0, 0)], k + 1, true)
      else if c = 104 then ((3, 0) :: (sxE s d (k + 1)).1, (sxE s d (k + 1)).2)
      else if c = 116 then ((4, 0) :: (sxE s d (k + 1)).1, (sxE s d (k + 1)).2)
      else if c = 40 then pairS s (sxE s d (k + 1)) (fun q => sxE s d (q + 1)) k
      else ([], k, false)
theorem sxE_none {s : List UInt8} {d k : Nat} (h : s[k]? = none ∨ d = 0) : sxE s d k = ([], k, false) := by
  cases d with
  | zero => rfl
  | succ d => rw [sxE, h.resolve_right (by omega)]
theorem sxE_some {s : List UInt8} {d k : Nat} {c : UInt8} (h : s[k]? = some c) : sxE s (d + 1) k = (if 48 ≤ c.toNat ∧ c.toNat ≤ 57 then ([(1, (c.toNat : Int) - 48)], k + 1, true)
      else if c = 110 then ([(0, 0)], k + 1, true)
      else if c = 104 then ((3, 0) :: (sxE s d (k + 1)).1, (sxE s d (k + 1)).2)
      else if c = 116 then ((4, 0) :: (sxE s d (k + 1)).1, (sxE s d (k + 1)).2)
      else if c = 40 then pairS s (sxE s d (k + 1)) (fun q => sxE s d (q + 1)) k
      else ([], k, false)) := by rw [sxE, h]
structure SxOk (s : List UInt8) (d k : Nat) (r : RdE) : Prop where
  ok : r.2.2 = true → k + r.1.length ≤ r.2.1 ∧ r.2.1 ≤ s.length
  len : r.1.length ≤ s.length + d
  next : r.2.1 ≤ k + d + s.length
theorem pairS_bd {s : List UInt8} {d k : Nat} {a : RdE} {g : Nat → RdE} (ha : SxOk s d (k + 1) a) (hg : ∀ q, SxOk s d (q + 1) (g q)) : SxOk s (d + 1) k (pairS s a g k) := by
  unfold pairS
  split
  · rename_i h1
    have h2 := ha.ok h1.1
    split
    · rename_i h3
      have h4 := (hg a.2.1).ok h3.1
      refine ⟨fun _ => ?_, ?_, ?_⟩ <;> simp only [List.length_cons, List.length_append] <;> omega
    · exact ⟨fun h => (by cases h), by simp, by simp; omega⟩
  · exact ⟨fun h => (by cases h), by simp, by simp; omega⟩
theorem sxE_bd (s : List UInt8) : ∀ (d k : Nat), SxOk s d k (sxE s d k)
  | 0, k => ⟨fun h => (by cases h), by simp [sxE], by simp [sxE] <;> omega⟩
  | d + 1, k => by
    cases hk : s[k]? with
    | none => rw [sxE_none (.inl hk)]; exact ⟨fun h => (by cases h), by simp, by simp; omega⟩
    | some c =>
      have hkl := (List.getElem?_eq_some_iff.1 hk).1
      have ih := sxE_bd s d (k + 1)
      rw [sxE_some hk]
      split
      · refine ⟨fun _ => ?_, ?_, ?_⟩ <;> simp <;> omega
      split
      · refine ⟨fun _ => ?_, ?_, ?_⟩ <;> simp <;> omega
      split
      · refine ⟨fun h => ?_, ?_, ?_⟩
        · have := ih.ok h; simp only [List.length_cons]; omega
        · have := ih.len; simp only [List.length_cons]; omega
        · have := ih.next; simp only; omega
      split
      · refine ⟨fun h => ?_, ?_, ?_⟩
        · have := ih.ok h; simp only [List.length_cons]; omega
        · have := ih.len; simp only [List.length_cons]; omega
        · have := ih.next; simp only; omega
      split
      · exact pairS_bd ih fun q => sxE_bd s d (q + 1)
      · exact ⟨fun h => (by cases h), by simp, by simp; omega⟩
theorem itoa_byte {v : Int} (h : 0 ≤ v ∧ v ≤ 9) : ∃ c : UInt8, Lib.itoa v = [c] ∧ (c.toNat : Int) = 48 + v := by
  refine ⟨_, itoa_dig h, ?_⟩
  rw [UInt8.toNat_ofNat']; omega
theorem sxE_read (s : List UInt8) : ∀ (N : Nat) (e : List (Int × Int)) (d k : Nat) (t : List UInt8), isE e → e.all okE = true → e.length ≤ N → e.length ≤ d → s.drop k = exT N e ++ t → sxE s d k = (e, k + (exT N e).length, true)
  | 0, e, d, k, t, h, _, hN, _, _ => by have := isE_pos h; omega
  | N + 1, e, d, k, t, h, ho, hN, hd, hs => by
    obtain ⟨x, l, rfl⟩ := isE_ne h
    obtain ⟨hx, hl⟩ := all_cons ho
    have hk := okE_kind hx
    rw [List.length_cons] at hN hd
    obtain ⟨d, rfl⟩ : ∃ d', d = d' + 1 := ⟨d - 1, by omega⟩
    rw [exT] at hs ⊢
    by_cases h0 : x.1 = 0
    · have e := isE_leaf h (many_zero (by omega) (by omega))
      subst e
      rw [if_pos h0] at hs ⊢
      obtain ⟨e1, _, _⟩ := drop_head (show s.drop k = 110 :: t from hs)
      rw [sxE_some e1, if_neg (by decide), if_pos rfl, okE_var hx (by omega), h0]; rfl
    by_cases h1 : x.1 = 1
    · have e := isE_leaf h (many_zero (by omega) (by omega))
      subst e
      obtain ⟨c, hc1, hc2⟩ := itoa_byte (v := x.2) (by omega)
      rw [if_neg h0, if_pos h1, hc1] at hs ⊢
      obtain ⟨e1, _, _⟩ := drop_head (show s.drop k = c :: t from hs)
      rw [sxE_some e1, if_pos (by omega), show (c.toNat : Int) - 48 = x.2 by omega, ← h1]; rfl
    by_cases h3 : x.1 = 3
    · rw [if_neg h0, if_neg h1, if_pos h3] at hs ⊢
      obtain ⟨e1, _, e2⟩ := drop_head (show s.drop k = 104 :: (exT N l ++ t) from hs)
      rw [sxE_some e1, if_neg (by decide), if_neg (by decide), if_pos rfl, sxE_read s N l d (k + 1) t ((isE_un (many_un.2 (.inl h3))).1 h) hl (by omega) (by omega) e2, List.length_cons, okE_var hx h1, h3]
      simp only [Prod.mk.injEq, true_and, and_true]; omega
    by_cases h4 : x.1 = 4
    · rw [if_neg h0, if_neg h1, if_neg h3, if_pos h4] at hs ⊢
      obtain ⟨e1, _, e2⟩ := drop_head (show s.drop k = 116 :: (exT N l ++ t) from hs)
      rw [sxE_some e1, if_neg (by decide), if_neg (by decide), if_neg (by decide), if_pos rfl, sxE_read s N l d (k + 1) t ((isE_un (many_un.2 (.inr h4))).1 h) hl (by omega) (by omega) e2, List.length_cons, okE_var hx h1, h4]
      simp only [Prod.mk.injEq, true_and, and_true]; omega
    · obtain ⟨_, e1, e2, e3, e4⟩ := isE_two h (many_two.2 (by omega))
      rw [if_neg h0, if_neg h1, if_neg h3, if_neg h4] at hs ⊢
      have hs' : s.drop k = 40 :: (exT N (l.take (endM l)) ++ binT x.1 :: (exT N (l.drop (endM l)) ++ 41 :: t)) := by rw [hs]; simp
      obtain ⟨f1, _, f2⟩ := drop_head hs'
      have r1 := sxE_read s N _ d (k + 1) _ e3 (all_take hl _) (by rw [List.length_take]; omega) (by rw [List.length_take]; omega) f2
      obtain ⟨f3, f4, f5⟩ := drop_head (drop_app f2)
      have r2 := sxE_read s N _ d _ _ e4 (all_drop hl _) (by rw [List.length_drop]; omega) (by rw [List.length_drop]; omega) f5
      obtain ⟨_, f6, _⟩ := drop_head (drop_app f5)
      rw [sxE_some f1, if_neg (by decide), if_neg (by decide), if_neg (by decide), if_neg (by decide), if_pos rfl, pairS, r1]
      simp only
      rw [if_pos ⟨trivial, f4⟩, r2]
      simp only
      rw [if_pos ⟨trivial, f6⟩, List.take_append_drop, f3, okE_var hx h1]
      simp only [List.length_cons, List.length_append, List.length_nil, Prod.mk.injEq, and_true, List.cons.injEq]
      refine ⟨?_, by omega⟩
      by_cases h2 : x.1 = 2
      · rw [h2]; rfl
      · rw [show x.1 = 5 by omega]; rfl

abbrev RdC := List Cmd × Nat × Bool
/-- a command at k -/
def sxC (s : List UInt8) (body : Nat → RdC) (go : List Cmd → Nat → RdC) (out : List Cmd) (k : Nat) : RdC := match s[k]? with
  | none => ([], k, false)
  | some c => if c = 119 then
        (if (sxE s 40 (k + 1)).2.2 = true then
          (if (body ((sxE s 40 (k + 1)).2.1 + 1)).2.2 = true then go (out ++ (1, 0, ((body ((sxE s 40 (k + 1)).2.1 + 1)).1.length : Int), (sxE s 40 (k + 1)).1) :: (body ((sxE s 40 (k + 1)).2.1 + 1)).1) ((body ((sxE s 40 (k + 1)).2.1 + 1)).2.1 + 1) else ([], k, false)) else ([], k, false))
      else (if (sxE s 40 (k + 2)).2.2 = true then go (out ++ [(0, (c.toNat : Int) - 48, 0, (sxE s 40 (k + 2)).1)]) (sxE s 40 (k + 2)).2.1 else ([], k, false))
theorem sxC_none {s : List UInt8} {body : Nat → RdC} {go : List Cmd → Nat → RdC} {out : List Cmd} {k : Nat} (h : s[k]? = none) : sxC s body go out k = ([], k, false) := by rw [sxC, h]
theorem sxC_while {s : List UInt8} {body : Nat → RdC} {go : List Cmd → Nat → RdC} {out : List Cmd} {k : Nat} (h : s[k]? = some 119) : sxC s body go out k = 
        (if (sxE s 40 (k + 1)).2.2 = true then
          (if (body ((sxE s 40 (k + 1)).2.1 + 1)).2.2 = true then go (out ++ (1, 0, ((body ((sxE s 40 (k + 1)).2.1 + 1)).1.length : Int), (sxE s 40 (k + 1)).1) :: (body ((sxE s 40 (k + 1)).2.1 + 1)).1) ((body ((sxE s 40 (k + 1)).2.1 + 1)).2.1 + 1) else ([], k, false)) else ([], k, false)) := by rw [sxC, h]; rfl
theorem sxC_set {s : List UInt8} {body : Nat → RdC} {go : List Cmd → Nat → RdC} {out : List Cmd} {k : Nat} {c : UInt8} (h : s[k]? = some c) (hc : c ≠ 119) : sxC s body go out k = 
      (if (sxE s 40 (k + 2)).2.2 = true then go (out ++ [(0, (c.toNat : Int) - 48, 0, (sxE s 40 (k + 2)).1)]) (sxE s 40 (k + 2)).2.1 else ([], k, false)) := by rw [sxC, h]; exact if_neg hc
/-- the reference's loop -/
def sxB (s : List UInt8) (d : Nat) (body : Nat → RdC) : Nat → List Cmd → Nat → RdC
  | 0, out, k => (out, k, true)
  | F + 1, out, k => if s[k]? = none ∨ s[k]? = some 125 then (out, k, true) else if 80 < out.length ∨ d = 0 then ([], k, false)
      else sxC s body (sxB s d body F) out (if out = [] then k else k + 1)
def sxA (s : List UInt8) : Nat → Nat → RdC
  | 0 => fun k => sxB s 0 (fun _ => ([], 0, false)) (s.length + 1) [] k
  | d + 1 => fun k => sxB s (d + 1) (sxA s d) (s.length + 1) [] k
def bodyS (s : List UInt8) : Nat → Nat → RdC
  | 0 => fun _ => ([], 0, false)
  | d + 1 => sxA s d
theorem sxA_eq (s : List UInt8) (d k : Nat) : sxA s d k = sxB s d (bodyS s d) (s.length + 1) [] k := by cases d <;> rfl
theorem sxB_end {s : List UInt8} {d : Nat} {body : Nat → RdC} {F : Nat} {out : List Cmd} {k : Nat} (h : s[k]? = none ∨ s[k]? = some 125) : sxB s d body F out k = (out, k, true) := by
  cases F with
  | zero => rfl
  | succ F => rw [sxB, if_pos h]
theorem sxB_bad {s : List UInt8} {d : Nat} {body : Nat → RdC} {F : Nat} {out : List Cmd} {k : Nat} (h : ¬ (s[k]? = none ∨ s[k]? = some 125)) (h2 : 80 < out.length ∨ d = 0) : sxB s d body (F + 1) out k = ([], k, false) := by rw [sxB, if_neg h, if_pos h2]
theorem sxB_go {s : List UInt8} {d : Nat} {body : Nat → RdC} {F : Nat} {out : List Cmd} {k : Nat} (h : ¬ (s[k]? = none ∨ s[k]? = some 125)) (h2 : ¬ (80 < out.length ∨ d = 0)) : sxB s d body (F + 1) out k = sxC s body (sxB s d body F) out (if out = [] then k else k + 1) := by rw [sxB, if_neg h, if_neg h2]
/-- the text that is still to be read -/
def restT (out p : List Cmd) : List UInt8 := if out = [] then whT p else tailT p
theorem sxB_read (s : List UInt8) : ∀ (n : Nat) (p : List Cmd), p.length ≤ n → vcL p = true → ∀ (d : Nat) (out : List Cmd) (k F : Nat) (t : List UInt8), p.length ≤ d → out.length + p.length ≤ 80 → (t = [] ∨ ∃ t', t = 125 :: t') → s.drop k = restT out p ++ t → s.length < F + k →
    sxB s d (bodyS s d) F out k = (out ++ p, k + (restT out p).length, true)
  | n, [], hn, hv, d, out, k, F, t, hd, ho, ht, hs, hF => by
    have e : restT out [] = [] := by rw [restT, whT_nil, tailT]; simp
    rw [e] at hs ⊢
    rw [List.nil_append] at hs
    have hk : s[k]? = none ∨ s[k]? = some 125 := by
      rcases ht with rfl | ⟨t', rfl⟩
      · exact .inl (List.getElem?_eq_none (List.drop_eq_nil_iff.1 hs))
      · exact .inr (drop_head hs).1
    rw [sxB_end hk, List.append_nil]; rfl
  | 0, c :: l, hn, hv, d, out, k, F, t, hd, ho, ht, hs, hF => by simp at hn
  | n + 1, (kd, v, ln, x) :: l, hn, hv, d, out, k, F, t, hd, ho, ht, hs, hF => by
    rw [List.length_cons] at hn hd ho
    obtain ⟨d, rfl⟩ : ∃ d', d = d' + 1 := ⟨d - 1, by omega⟩
    obtain ⟨hx, hk⟩ := vcL_one hv
    obtain ⟨q1, q2, q3, q4⟩ := validE_end hx
    -- the text of the first command, and what is behind it
    obtain ⟨k1, hk1, hs1, hrl⟩ : ∃ k1, (if out = [] then k else k + 1) = k1 ∧ s.drop k1 = whT ((kd, v, ln, x) :: l) ++ t ∧ k + (restT out ((kd, v, ln, x) :: l)).length = k1 + (whT ((kd, v, ln, x) :: l)).length := by
      by_cases h0 : out = []
      · have e : restT out ((kd, v, ln, x) :: l) = whT ((kd, v, ln, x) :: l) := if_pos h0
        rw [e] at hs ⊢
        exact ⟨k, if_pos h0, hs, rfl⟩
      · have e : restT out ((kd, v, ln, x) :: l) = 59 :: whT ((kd, v, ln, x) :: l) := by rw [restT, if_neg h0, tailT, if_neg (by simp)]
        rw [e] at hs ⊢
        refine ⟨k + 1, if_neg h0, (drop_head hs).2.2, ?_⟩
        rw [List.length_cons]; omega
    have hne : whT ((kd, v, ln, x) :: l) ≠ [] := fun h => by have := whT_ne h; simp at this
    have hkl : k < s.length := by
      rcases Nat.lt_or_ge k s.length with h | h
      · exact h
      · exfalso
        have h5 : s.drop k1 = [] := by rw [List.drop_eq_nil_iff]; by_cases h0 : out = [] <;> simp [h0] at hk1 <;> omega
        rw [h5] at hs1
        have := congrArg List.length hs1
        rw [List.length_append, List.length_nil] at this
        exact hne (List.length_eq_zero_iff.1 (by omega))
    obtain ⟨F, rfl⟩ : ∃ F', F = F' + 1 := ⟨F - 1, by omega⟩
    have hkk : k ≤ k1 := by rw [← hk1]; split <;> omega
    have body : ∀ (r : List UInt8) (c0 : UInt8) , c0 ≠ 125 → s.drop k1 = c0 :: r → ¬ (s[k]? = none ∨ s[k]? = some 125) := by
      intro r c0 hc h
      by_cases h0 : out = []
      · rw [if_pos h0] at hk1; subst hk1
        rw [(drop_head h).1]; simpa using hc
      · rw [restT, if_neg h0, tailT, if_neg (by simp)] at hs
        rw [(drop_head hs).1]; simp
    have hgo : ¬ (80 < out.length ∨ d + 1 = 0) := by omega
    rcases hk with ⟨rfl, v0, v1, rfl, hl⟩ | ⟨rfl, rfl, m, rfl, hm, ha, hb⟩
    · obtain ⟨c, hc1, hc2⟩ := itoa_byte (v := v) (by omega)
      have e1 := whT_cons (whL_set v 0 x l)
      rw [hc1] at e1
      have hs2 : s.drop k1 = c :: 61 :: (exT 40 x ++ (tailT l ++ t)) := by rw [hs1, e1]; simp
      obtain ⟨f1, _, f2⟩ := drop_head hs2
      obtain ⟨_, _, f3⟩ := drop_head f2
      have hc119 : c ≠ 119 := fun h => by rw [h] at hc2; have : ((119 : UInt8).toNat : Int) = 119 := rfl; omega
      have hc125 : c ≠ 125 := fun h => by rw [h] at hc2; have : ((125 : UInt8).toNat : Int) = 125 := rfl; omega
      have r1 := sxE_read s 40 x 40 (k1 + 2) _ q1 q4 q3 q3 f3
      have f4 := drop_app f3
      have r2 := sxB_read s n l (by omega) hl (d + 1) (out ++ [(0, v, 0, x)]) (k1 + 2 + (exT 40 x).length) F t (by omega) (by rw [List.length_append, List.length_singleton]; omega) ht (by rw [restT, if_neg (by simp)]; exact f4) (by omega)
      rw [sxB_go (body _ c hc125 hs2) hgo, hk1, sxC_set f1 hc119, r1]
      simp only
      rw [if_pos trivial, show (c.toNat : Int) - 48 = v by omega, r2, hrl, e1, restT, if_neg (by simp)]
      simp only [List.length_append, List.length_cons, List.append_assoc, List.singleton_append, Prod.mk.injEq, true_and, and_true]
      omega
    · have e1 := whT_cons (whL_while 0 m x l)
      have hs2 : s.drop k1 = 119 :: (exT 40 x ++ 123 :: (whT (l.take m) ++ 125 :: (tailT (l.drop m) ++ t))) := by rw [hs1, e1]; simp [whT]
      obtain ⟨f1, _, f2⟩ := drop_head hs2
      have r1 := sxE_read s 40 x 40 (k1 + 1) _ q1 q4 q3 q3 f2
      obtain ⟨_, _, f3⟩ := drop_head (drop_app f2)
      have hml : (l.take m).length = m := by rw [List.length_take]; omega
      have r2 := sxB_read s n (l.take m) (by omega) ha d [] (k1 + 1 + (exT 40 x).length + 1) (s.length + 1) _ (by omega) (by simp; omega) (.inr ⟨_, rfl⟩) (by rw [restT, if_pos rfl]; exact f3) (by omega)
      rw [restT, if_pos rfl, List.nil_append] at r2
      obtain ⟨_, _, f4⟩ := drop_head (drop_app f3)
      have r3 := sxB_read s n (l.drop m) (by rw [List.length_drop]; omega) hb (d + 1) (out ++ (1, 0, (m : Int), x) :: l.take m) (k1 + 1 + (exT 40 x).length + 1 + (whT (l.take m)).length + 1) F t (by rw [List.length_drop]; omega) (by rw [List.length_append, List.length_cons, List.length_drop, hml]; omega) ht (by rw [restT, if_neg (by simp)]; exact f4) (by omega)
      rw [sxB_go (body _ 119 (by decide) hs2) hgo, hk1, sxC_while f1, r1]
      simp only
      rw [if_pos trivial, show bodyS s (d + 1) (k1 + 1 + (exT 40 x).length + 1) = sxA s d (k1 + 1 + (exT 40 x).length + 1) from rfl, sxA_eq, r2]
      simp only
      rw [if_pos trivial, hml, r3, hrl, e1, restT, if_neg (by simp)]
      simp only [List.length_append, List.length_cons, List.length_nil, List.append_assoc, List.cons_append, List.take_append_drop, whT, Prod.mk.injEq, true_and, and_true]
      omega
theorem sxA_read {p : List Cmd} (hv : validW p = true) : sxA (whT p) 80 0 = (p, (whT p).length, true) := by
  simp only [validW, Bool.and_eq_true, decide_eq_true_eq] at hv
  rw [sxA_eq, sxB_read (whT p) _ p (Nat.le_refl _) hv.2 80 [] 0 _ [] (by omega) (by simp; omega) (.inl rfl) (by rw [restT, if_pos rfl]; simp) (by omega)]
  rw [restT, if_pos rfl]; simp

/-! ### the program's reader: the runes that are left, whether something was bad, the fuel -/
abbrev RS := List Int × Bool × Int
def pkR (r : List Int) : Int := r.headD 0
def tkR (r : List Int) : List Int := if pkR r = 0 then r else r.tail
theorem pkR_cons (c : Int) (r : List Int) : pkR (c :: r) = c := rfl
theorem tkR_cons {c : Int} (r : List Int) (h : c ≠ 0) : tkR (c :: r) = r := by rw [tkR, pkR_cons, if_neg h]; rfl
theorem tkR_len (r : List Int) : (tkR r).length ≤ r.length := by unfold tkR; split <;> simp
theorem tkR_lt {r : List Int} (h : pkR r ≠ 0) : (tkR r).length + 1 = r.length := by
  cases r with
  | nil => exact absurd rfl h
  | cons c r => rw [tkR_cons r (show c ≠ 0 from h)]; rfl
def ixP (go : RS → List (Int × Int) × RS) (c : Int) (r : List Int) (left : Int) : List (Int × Int) × RS :=
  if c = 110 then ([(0, 0)], (r, false, left))
  else if c = 104 then ((3, 0) :: (go (r, false, left)).1, (go (r, false, left)).2)
  else if c = 116 then ((4, 0) :: (go (r, false, left)).1, (go (r, false, left)).2)
  else if c = 40 then (((if pkR (go (r, false, left)).2.1 = 63 then 5 else 2), 0) :: ((go (r, false, left)).1 ++ (go (tkR (go (r, false, left)).2.1, (go (r, false, left)).2.2)).1),
      (tkR (go (tkR (go (r, false, left)).2.1, (go (r, false, left)).2.2)).2.1, (go (tkR (go (r, false, left)).2.1, (go (r, false, left)).2.2)).2.2))
  else ([(1, c - 48)], (r, decide (c < 48) || decide (57 < c), left))
def ixE : Nat → RS → List (Int × Int) × RS
  | 0, st => ([(0, 0)], (st.1, true, st.2.2 - 1))
  | F + 1, st => if st.2.2 - 1 < 0 ∨ st.2.1 = true then ([(0, 0)], (st.1, true, st.2.2 - 1)) else ixP (ixE F) (pkR st.1) (tkR st.1) (st.2.2 - 1)
theorem ixE_bad {F : Nat} {st : RS} (h : st.2.2 - 1 < 0 ∨ st.2.1 = true) : ixE F st = ([(0, 0)], (st.1, true, st.2.2 - 1)) := by
  cases F with
  | zero => rfl
  | succ F => rw [ixE, if_pos h]
theorem ixE_go {F : Nat} {st : RS} (h : ¬ (st.2.2 - 1 < 0 ∨ st.2.1 = true)) : ixE (F + 1) st = ixP (ixE F) (pkR st.1) (tkR st.1) (st.2.2 - 1) := by rw [ixE, if_neg h]
/-- what is left behind an expression -/
structure IxOk (st : RS) (r : List (Int × Int) × RS) : Prop where
  left : r.2.2.2 ≤ st.2.2 - 1
  low : (st.2.2 < 0 → r.2.2.2 = st.2.2 - 1) ∧ (0 ≤ st.2.2 → -(st.2.2 + 1) ≤ r.2.2.2)
  len : (r.1.length : Int) = st.2.2 - r.2.2.2
  rest : r.2.1.length ≤ st.1.length
  good : r.2.2.1 = false → 0 ≤ r.2.2.2
theorem IxOk.bad (st : RS) : IxOk st ([(0, 0)], (st.1, true, st.2.2 - 1)) := ⟨by simp, ⟨fun _ => rfl, fun h => by simp only; omega⟩, by simp; omega, by simp, fun h => by cases h⟩
theorem ixP_ok {go : RS → List (Int × Int) × RS} {st : RS} {c : Int} {r : List Int} (hgo : ∀ s : RS, s.2.2 < st.2.2 → IxOk s (go s)) (hl : 0 ≤ st.2.2 - 1) (hr : r.length ≤ st.1.length) : IxOk st (ixP go c r (st.2.2 - 1)) := by
  have h1 := hgo (r, false, st.2.2 - 1) (by simp only; omega)
  unfold ixP
  obtain ⟨a, ha⟩ : ∃ a, go (r, false, st.2.2 - 1) = a := ⟨_, rfl⟩
  rw [ha] at h1 ⊢
  have l1 := h1.left; have l2 := h1.low.2 hl; have l3 := h1.len; have l4 := h1.rest; have l5 := h1.good
  simp only at l1 l2 l3 l4
  split
  · exact ⟨by simp, ⟨fun h => (by omega), fun h => by simp only; omega⟩, by simp; omega, by simpa using hr, fun h => hl⟩
  split
  · refine ⟨?_, ⟨fun h => (by omega), fun h => ?_⟩, ?_, ?_, fun h => h1.good h⟩
    · simp only; omega
    · simp only; omega
    · simp only [List.length_cons]; omega
    · simp only; omega
  split
  · refine ⟨?_, ⟨fun h => (by omega), fun h => ?_⟩, ?_, ?_, fun h => h1.good h⟩
    · simp only; omega
    · simp only; omega
    · simp only [List.length_cons]; omega
    · simp only; omega
  split
  · have h2 := hgo (tkR a.2.1, a.2.2) (by simp only; omega)
    obtain ⟨b, hb⟩ : ∃ b, go (tkR a.2.1, a.2.2) = b := ⟨_, rfl⟩
    rw [hb] at h2 ⊢
    have m1 := h2.left; have m2 := h2.low; have m3 := h2.len; have m4 := h2.rest
    simp only at m1 m2 m3 m4
    have t1 := tkR_len a.2.1; have t2 := tkR_len b.2.1
    refine ⟨?_, ⟨fun h => (by omega), fun h => ?_⟩, ?_, ?_, fun h => h2.good h⟩
    · simp only; omega
    · simp only
      rcases Int.lt_or_le a.2.2.2 0 with h0 | h0
      · rw [m2.1 h0]; omega
      · have := m2.2 h0; omega
    · simp only [List.length_cons, List.length_append]; omega
    · simp only; omega
  · exact ⟨by simp, ⟨fun h => (by omega), fun h => by simp only; omega⟩, by simp; omega, by simpa using hr, fun h => hl⟩
theorem ixE_ok : ∀ (F : Nat) (st : RS), IxOk st (ixE F st)
  | 0, st => IxOk.bad st
  | F + 1, st => by
    by_cases h : st.2.2 - 1 < 0 ∨ st.2.1 = true
    · rw [ixE_bad h]; exact IxOk.bad st
    · rw [ixE_go h]
      exact ixP_ok (fun s _ => ixE_ok F s) (by omega) (tkR_len _)
/-- a text's bytes as runes -/
def ints (l : List UInt8) : List Int := l.map fun b => (b.toNat : Int)
theorem ints_app (a b : List UInt8) : ints (a ++ b) = ints a ++ ints b := by simp [ints]
theorem ints_cons (a : UInt8) (b : List UInt8) : ints (a :: b) = (a.toNat : Int) :: ints b := rfl
theorem ixE_read : ∀ (N : Nat) (e : List (Int × Int)) (F : Nat) (t : List Int) (left : Int), isE e → e.all okE = true → e.length ≤ N → (e.length : Int) ≤ left → left ≤ F → ixE F (ints (exT N e) ++ t, false, left) = (e, (t, false, left - e.length))
  | 0, e, F, t, left, h, _, hN, _, _ => by have := isE_pos h; omega
  | N + 1, e, F, t, left, h, ho, hN, hd, hF => by
    obtain ⟨x, l, rfl⟩ := isE_ne h
    obtain ⟨hx, hl⟩ := all_cons ho
    have hk := okE_kind hx
    rw [List.length_cons] at hN hd
    obtain ⟨F, rfl⟩ : ∃ F', F = F' + 1 := ⟨F - 1, by omega⟩
    rw [ixE_go (by simp; omega), exT, List.length_cons]
    by_cases h0 : x.1 = 0
    · have e := isE_leaf h (many_zero (by omega) (by omega))
      subst e
      rw [if_pos h0]
      show ixP _ 110 t (left - 1) = _
      rw [ixP, if_pos rfl, okE_var hx (by omega), h0]; simp
    by_cases h1 : x.1 = 1
    · have e := isE_leaf h (many_zero (by omega) (by omega))
      subst e
      obtain ⟨c, hc1, hc2⟩ := itoa_byte (v := x.2) (by omega)
      rw [if_neg h0, if_pos h1, hc1]
      show ixP _ (c.toNat : Int) (tkR ((c.toNat : Int) :: t)) (left - 1) = _
      rw [hc2, tkR_cons _ (by omega), ixP, if_neg (by omega), if_neg (by omega), if_neg (by omega), if_neg (by omega), show 48 + x.2 - 48 = x.2 by omega, decide_eq_false (by omega), decide_eq_false (by omega)]
      rw [show ([(1, x.2)] : List (Int × Int)) = [x] by rw [← h1]]; simp
    by_cases h3 : x.1 = 3
    · rw [if_neg h0, if_neg h1, if_pos h3]
      show ixP _ 104 (ints (exT N l) ++ t) (left - 1) = _
      rw [ixP, if_neg (by decide), if_pos rfl, ixE_read N l F t (left - 1) ((isE_un (many_un.2 (.inl h3))).1 h) hl (by omega) (by omega) (by omega), okE_var hx h1, h3]
      simp only [Prod.mk.injEq, true_and]; omega
    by_cases h4 : x.1 = 4
    · rw [if_neg h0, if_neg h1, if_neg h3, if_pos h4]
      show ixP _ 116 (ints (exT N l) ++ t) (left - 1) = _
      rw [ixP, if_neg (by decide), if_neg (by decide), if_pos rfl, ixE_read N l F t (left - 1) ((isE_un (many_un.2 (.inr h4))).1 h) hl (by omega) (by omega) (by omega), okE_var hx h1, h4]
      simp only [Prod.mk.injEq, true_and]; omega
    · obtain ⟨_, e1, e2, e3, e4⟩ := isE_two h (many_two.2 (by omega))
      rw [if_neg h0, if_neg h1, if_neg h3, if_neg h4]
      have la : (l.take (endM l)).length = endM l := by rw [List.length_take]; omega
      have lb : (l.drop (endM l)).length = l.length - endM l := List.length_drop
      have hs : ints (40 :: (exT N (l.take (endM l)) ++ binT x.1 :: (exT N (l.drop (endM l)) ++ [41]))) ++ t = 40 :: (ints (exT N (l.take (endM l))) ++ ((binT x.1).toNat : Int) :: (ints (exT N (l.drop (endM l))) ++ 41 :: t)) := by
        simp [ints]
      rw [hs]
      show ixP _ 40 (ints (exT N (l.take (endM l))) ++ ((binT x.1).toNat : Int) :: (ints (exT N (l.drop (endM l))) ++ 41 :: t)) (left - 1) = _
      have hb0 : ((binT x.1).toNat : Int) ≠ 0 := by unfold binT; split <;> decide
      rw [ixP, if_neg (by decide), if_neg (by decide), if_neg (by decide), if_pos rfl, ixE_read N _ F _ (left - 1) e3 (all_take hl _) (by omega) (by omega) (by omega)]
      simp only
      rw [tkR_cons _ hb0, ixE_read N _ F _ _ e4 (all_drop hl _) (by omega) (by omega) (by omega)]
      simp only
      rw [tkR_cons _ (by decide), List.take_append_drop, pkR_cons, okE_var hx h1]
      simp only [Prod.mk.injEq, true_and, List.cons.injEq, and_true]
      refine ⟨?_, by omega⟩
      by_cases h2 : x.1 = 2
      · rw [h2]; rfl
      · rw [show x.1 = 5 by omega]; rfl
def ixD (go : List Cmd → RS → List Cmd × RS) (p : List Cmd) (c : Int) (r : List Int) (left : Int) : List Cmd × RS :=
  if c = 59 then go p (r, false, left)
  else if c = 119 then
    go (p ++ (1, 0, ((go [] (tkR (ixE 3201 (r, false, left)).2.1, (ixE 3201 (r, false, left)).2.2)).1.length : Int), (ixE 3201 (r, false, left)).1) :: (go [] (tkR (ixE 3201 (r, false, left)).2.1, (ixE 3201 (r, false, left)).2.2)).1)
      (tkR (go [] (tkR (ixE 3201 (r, false, left)).2.1, (ixE 3201 (r, false, left)).2.2)).2.1, (go [] (tkR (ixE 3201 (r, false, left)).2.1, (ixE 3201 (r, false, left)).2.2)).2.2)
  else go (p ++ [(0, c - 48, 0, (ixE 3201 (tkR r, decide (c < 48) || decide (57 < c), left)).1)]) (ixE 3201 (tkR r, decide (c < 48) || decide (57 < c), left)).2
def ixC : Nat → List Cmd → RS → List Cmd × RS
  | 0, p, st => (p, st)
  | F + 1, p, st => if pkR st.1 = 0 ∨ pkR st.1 = 125 ∨ st.2.1 = true then (p, st) else ixD (ixC F) p (pkR st.1) (tkR st.1) st.2.2
theorem ixC_end {F : Nat} {p : List Cmd} {st : RS} (h : pkR st.1 = 0 ∨ pkR st.1 = 125 ∨ st.2.1 = true) : ixC F p st = (p, st) := by
  cases F with
  | zero => rfl
  | succ F => rw [ixC, if_pos h]
theorem ixC_go {F : Nat} {p : List Cmd} {st : RS} (h : ¬ (pkR st.1 = 0 ∨ pkR st.1 = 125 ∨ st.2.1 = true)) : ixC (F + 1) p st = ixD (ixC F) p (pkR st.1) (tkR st.1) st.2.2 := by rw [ixC, if_neg h]
/-- the numbers of the values together -/
def sumL : List Cmd → Nat
  | [] => 0
  | c :: l => c.2.2.2.length + sumL l
theorem sumL_app : ∀ a b : List Cmd, sumL (a ++ b) = sumL a + sumL b
  | [], b => by simp [sumL]
  | c :: a, b => by simp only [List.cons_append, sumL, sumL_app a b]; omega
theorem sumL_le : ∀ {p : List Cmd}, vcL p = true → sumL p ≤ 40 * p.length
  | [], _ => by simp [sumL]
  | c :: l, h => by
    have h1 := vcL_all _ (c :: l) (Nat.le_refl _) h
    have h2 := (validE_end (h1 c (by simp)).1).2.2.1
    have h3 : sumL l ≤ 40 * l.length := by
      have : ∀ q : List Cmd, (∀ c ∈ q, c.2.2.2.length ≤ 40) → sumL q ≤ 40 * q.length := by
        intro q
        induction q with
        | nil => intro _; simp [sumL]
        | cons d q ih => intro hq; have h4 := hq d (by simp); have h5 := ih (fun c hc => hq c (by simp [hc])); rw [sumL, List.length_cons]; omega
      exact this l fun d hd => (validE_end (h1 d (by simp [hd])).1).2.2.1
    rw [sumL, List.length_cons]; omega
theorem ixC_read : ∀ (n : Nat) (p : List Cmd), p.length ≤ n → vcL p = true → ∀ (acc : List Cmd) (F : Nat) (t : List Int) (left : Int), (t = [] ∨ ∃ t', t = 125 :: t') → (sumL p : Int) ≤ left → left ≤ 3200 → (ints (whT p) ++ t).length ≤ F →
    ixC F acc (ints (whT p) ++ t, false, left) = (acc ++ p, (t, false, left - sumL p))
  | n, [], hn, hv, acc, F, t, left, ht, hl, hl2, hF => by
    have e : ints (whT []) ++ t = t := by rw [whT_nil]; rfl
    rw [e, ixC_end, List.append_nil, sumL]
    · simp
    · rcases ht with rfl | ⟨t', rfl⟩
      · exact .inl rfl
      · exact .inr (.inl rfl)
  | 0, c :: l, hn, hv, acc, F, t, left, ht, hl, hl2, hF => by simp at hn
  | n + 1, (kd, v, ln, x) :: l, hn, hv, acc, F, t, left, ht, hlf, hl2, hF => by
    rw [List.length_cons] at hn
    rw [sumL] at hlf ⊢
    simp only at hlf ⊢
    obtain ⟨hx, hk⟩ := vcL_one hv
    obtain ⟨q1, q2, q3, q4⟩ := validE_end hx
    -- behind a command: a semicolon and the rest, or the end
    have next : ∀ (q : List Cmd), q.length ≤ n → vcL q = true → ∀ (acc : List Cmd) (F : Nat) (left : Int), (sumL q : Int) ≤ left → left ≤ 3200 → (ints (tailT q) ++ t).length ≤ F → ixC F acc (ints (tailT q) ++ t, false, left) = (acc ++ q, (t, false, left - sumL q)) := by
      intro q hq hvq acc F left h1 h2 h3
      by_cases h0 : q = []
      · have h4 := ixC_read n q hq hvq acc F t left ht h1 h2 (by rw [h0, whT_nil]; rw [h0, tailT, if_pos rfl] at h3; exact h3)
        rw [h0, whT_nil] at h4
        rw [h0, tailT, if_pos rfl]; exact h4
      · rw [tailT, if_neg h0] at h3 ⊢
        have e : ints (59 :: whT q) ++ t = 59 :: (ints (whT q) ++ t) := rfl
        rw [e] at h3 ⊢
        rw [List.length_cons] at h3
        obtain ⟨F, rfl⟩ : ∃ F', F = F' + 1 := ⟨F - 1, by omega⟩
        have hp : pkR ((59 : Int) :: (ints (whT q) ++ t)) = 59 := rfl
        rw [ixC_go (by simp only [hp]; decide)]
        simp only [hp]
        rw [tkR_cons _ (by decide), ixD, if_pos rfl]
        exact ixC_read n q hq hvq acc F t left ht h1 h2 (by omega)
    rcases hk with ⟨rfl, v0, v1, rfl, hl⟩ | ⟨rfl, rfl, m, rfl, hm, ha, hb⟩
    · obtain ⟨c, hc1, hc2⟩ := itoa_byte (v := v) (by omega)
      have e1 := whT_cons (whL_set v 0 x l)
      rw [hc1] at e1
      have e2 : ints (whT ((0, v, 0, x) :: l)) ++ t = (c.toNat : Int) :: 61 :: (ints (exT 40 x) ++ (ints (tailT l) ++ t)) := by rw [e1]; simp [ints]
      rw [e2] at hF ⊢
      rw [List.length_cons, List.length_cons, List.length_append] at hF
      obtain ⟨F, rfl⟩ : ∃ F', F = F' + 1 := ⟨F - 1, by omega⟩
      rw [ixC_go (by simp only [pkR_cons]; rintro (h | h | h) <;> first | omega | cases h)]
      simp only [pkR_cons]
      rw [tkR_cons _ (by omega), ixD, if_neg (by omega), if_neg (by omega), tkR_cons _ (by decide), decide_eq_false (by omega), decide_eq_false (by omega)]
      rw [show (false || false) = false from rfl, ixE_read 40 x 3201 _ left q1 q4 q3 (by omega) (by omega)]
      simp only
      rw [show (c.toNat : Int) - 48 = v by omega, next l (by omega) hl _ F _ (by omega) (by omega) (by omega)]
      simp only [List.append_assoc, List.singleton_append, Prod.mk.injEq, true_and]
      omega
    · have e1 := whT_cons (whL_while 0 m x l)
      have e2 : ints (whT ((1, 0, (m : Int), x) :: l)) ++ t = 119 :: (ints (exT 40 x) ++ 123 :: (ints (whT (l.take m)) ++ 125 :: (ints (tailT (l.drop m)) ++ t))) := by rw [e1]; simp [ints, whT]
      have hsum : sumL l = sumL (l.take m) + sumL (l.drop m) := by rw [← sumL_app, List.take_append_drop]
      have hml : (l.take m).length = m := by rw [List.length_take]; omega
      rw [e2] at hF ⊢
      rw [List.length_cons, List.length_append, List.length_cons] at hF
      obtain ⟨F, rfl⟩ : ∃ F', F = F' + 1 := ⟨F - 1, by omega⟩
      rw [ixC_go (by simp only [pkR_cons]; decide)]
      simp only [pkR_cons]
      rw [tkR_cons _ (by decide), ixD, if_neg (by decide), if_pos rfl, ixE_read 40 x 3201 _ left q1 q4 q3 (by omega) (by omega)]
      simp only
      rw [tkR_cons _ (by decide), ixC_read n (l.take m) (by omega) ha [] F _ _ (.inr ⟨_, rfl⟩) (by omega) (by omega) (by omega)]
      simp only
      rw [List.length_append] at hF
      rw [tkR_cons _ (by decide), List.nil_append, hml, next (l.drop m) (by rw [List.length_drop]; omega) hb _ F _ (by omega) (by omega) (by rw [List.length_cons] at hF; omega)]
      simp only [List.append_assoc, List.cons_append, List.take_append_drop, Prod.mk.injEq, true_and]
      omega
theorem ixC_text {p : List Cmd} (hv : validW p = true) : ixC (ints (whT p)).length [] (ints (whT p), false, 3200) = (p, ([], false, 3200 - (sumL p : Int))) := by
  simp only [validW, Bool.and_eq_true, decide_eq_true_eq] at hv
  have h1 := sumL_le hv.2
  have h2 := ixC_read _ p (Nat.le_refl _) hv.2 [] (ints (whT p)).length [] 3200 (.inl rfl) (by omega) (by omega) (by simp)
  rwa [List.append_nil, List.nil_append] at h2

/-! ### runes -/
def rnL (s : ByteArray) : Nat → Nat → List Int
  | 0, _ => []
  | b + 1, i => if i < s.size then ((Utf8.decode s i).1 : Int) :: rnL s b (i + (Utf8.decode s i).2) else []
theorem rnL_arr (s : ByteArray) : ∀ (b i : Nat) (acc : Array Value), (Conv.runesFrom s b i acc).toList = acc.toList ++ (rnL s b i).map (Value.int .i32)
  | 0, _, acc => by simp [Conv.runesFrom, rnL]
  | b + 1, i, acc => by
    unfold Conv.runesFrom
    rw [rnL]
    split
    · simp only
      rw [rnL_arr s b]
      simp
    · simp
theorem decode_lt (s : ByteArray) (i : Nat) : (Utf8.decode s i).1 < 3000000 := by
  have hb : ∀ k, (s.get! (i + k)).toNat < 256 := fun k => UInt8.toNat_lt _
  unfold Utf8.decode
  have h0 := hb 0; have h1 := hb 1; have h2 := hb 2; have h3 := hb 3
  have hr : Utf8.runeError < 3000000 := by decide
  simp only
  split
  · simp only; omega
  split
  · split
    · simp only; omega
    · exact hr
  split
  · split
    · simp only; omega
    · exact hr
  split
  · split
    · simp only; omega
    · exact hr
  · exact hr
theorem rnL_bd (s : ByteArray) : ∀ (b i : Nat), ∀ c ∈ rnL s b i, 0 ≤ c ∧ c ≤ 3000000
  | 0, _, c, h => by simp [rnL] at h
  | b + 1, i, c, h => by
    rw [rnL] at h
    split at h
    · rcases List.mem_cons.1 h with rfl | h
      · have := decode_lt s i; omega
      · exact rnL_bd s b _ c h
    · cases h
theorem rnL_len (s : ByteArray) : ∀ (b i : Nat), (rnL s b i).length ≤ b
  | 0, _ => by simp [rnL]
  | b + 1, i => by
    rw [rnL]
    split
    · have := rnL_len s b (i + (Utf8.decode s i).2); simp; omega
    · simp
theorem bs_get (l : List UInt8) {i : Nat} {c : UInt8} (h : l[i]? = some c) : (bs l).get! i = c := by
  obtain ⟨hi, rfl⟩ := List.getElem?_eq_some_iff.1 h
  show (l.toArray)[i]! = l[i]
  simp [hi]
theorem decode_ascii {l : List UInt8} {i : Nat} {c : UInt8} (h : l[i]? = some c) (hc : c.toNat < 128) : Utf8.decode (bs l) i = (c.toNat, 1) := by
  unfold Utf8.decode
  simp only [Nat.add_zero, bs_get l h]
  rw [if_pos hc]
theorem rnL_ascii (l : List UInt8) (ha : ∀ c ∈ l, c.toNat < 128) : ∀ (b i : Nat), l.length ≤ b + i → rnL (bs l) b i = ints (l.drop i)
  | 0, i, h => by rw [List.drop_eq_nil_of_le (by omega)]; rfl
  | b + 1, i, h => by
    rw [rnL, bs_size]
    by_cases hi : i < l.length
    · have hx : l[i]? = some l[i] := List.getElem?_eq_getElem hi
      rw [if_pos hi, decode_ascii hx (ha _ (List.getElem_mem hi)), rnL_ascii l ha b (i + 1) (by omega), drop_at hx, ints_cons]
    · rw [if_neg hi, List.drop_eq_nil_of_le (by omega)]; rfl
/-- a text's runes -/
def runesL (l : List UInt8) : List Int := rnL (bs l) l.length 0
theorem runesL_ascii {l : List UInt8} (ha : ∀ c ∈ l, c.toNat < 128) : runesL l = ints l := by rw [runesL, rnL_ascii l ha _ _ (by omega), List.drop_zero]
theorem runesL_nil : runesL [] = [] := rfl
theorem runesL_len (l : List UInt8) : (runesL l).length ≤ l.length := rnL_len _ _ _
theorem runesL_arr (l : List UInt8) : (Conv.runesFrom (bs l) (bs l).size 0 #[]).toList = (runesL l).map (Value.int .i32) := by
  rw [rnL_arr, bs_size]; rfl
theorem runesL_size (l : List UInt8) : (Conv.runesFrom (bs l) (bs l).size 0 #[]).size = (runesL l).length := by rw [← Array.length_toList, runesL_arr, List.length_map]

/-! ### texts of programs are plain -/
theorem itoa_ascii {v : Int} (h : 0 ≤ v ∧ v ≤ 9) : ∀ c ∈ Lib.itoa v, c.toNat < 128 := by
  obtain ⟨c, hc1, hc2⟩ := itoa_byte h
  rw [hc1]; intro d hd
  rw [List.mem_singleton] at hd; subst hd; omega
theorem binT_ascii (k : Int) : (binT k).toNat < 128 := by unfold binT; split <;> decide
theorem exT_ascii : ∀ (N : Nat) (e : List (Int × Int)), isE e → e.all okE = true → e.length ≤ N → ∀ c ∈ exT N e, c.toNat < 128
  | 0, e, h, _, hN => by have := isE_pos h; omega
  | N + 1, e, h, ho, hN => by
    obtain ⟨x, l, rfl⟩ := isE_ne h
    obtain ⟨hx, hl⟩ := all_cons ho
    have hk := okE_kind hx
    rw [List.length_cons] at hN
    rw [exT]
    intro c hc
    split at hc
    · rw [List.mem_singleton] at hc; subst hc; decide
    split at hc
    · exact itoa_ascii (by omega) c hc
    split at hc
    · rename_i h3
      rcases List.mem_cons.1 hc with rfl | hc
      · decide
      · exact exT_ascii N l ((isE_un (many_un.2 (.inl h3))).1 h) hl (by omega) c hc
    split at hc
    · rename_i h4
      rcases List.mem_cons.1 hc with rfl | hc
      · decide
      · exact exT_ascii N l ((isE_un (many_un.2 (.inr h4))).1 h) hl (by omega) c hc
    · obtain ⟨_, e1, e2, e3, e4⟩ := isE_two h (many_two.2 (by omega))
      rcases List.mem_cons.1 hc with rfl | hc
      · decide
      rcases List.mem_append.1 hc with hc | hc
      · exact exT_ascii N _ e3 (all_take hl _) (by rw [List.length_take]; omega) c hc
      rcases List.mem_cons.1 hc with rfl | hc
      · exact binT_ascii _
      rcases List.mem_append.1 hc with hc | hc
      · exact exT_ascii N _ e4 (all_drop hl _) (by rw [List.length_drop]; omega) c hc
      · rw [List.mem_singleton] at hc; subst hc; decide
theorem whT_ascii : ∀ (n : Nat) (p : List Cmd), p.length ≤ n → vcL p = true → ∀ c ∈ whT p, c.toNat < 128
  | n, [], _, _, c, hc => by rw [whT_nil] at hc; cases hc
  | 0, d :: l, hn, _, c, hc => by simp at hn
  | n + 1, (kd, v, ln, x) :: l, hn, hv, c, hc => by
    rw [List.length_cons] at hn
    obtain ⟨hx, hk⟩ := vcL_one hv
    obtain ⟨q1, q2, q3, q4⟩ := validE_end hx
    have tail : ∀ q : List Cmd, q.length ≤ n → vcL q = true → ∀ c ∈ tailT q, c.toNat < 128 := by
      intro q hq hvq c hc
      unfold tailT at hc
      split at hc
      · cases hc
      · rcases List.mem_cons.1 hc with rfl | hc
        · decide
        · exact whT_ascii n q hq hvq c hc
    rcases hk with ⟨rfl, v0, v1, rfl, hl⟩ | ⟨rfl, rfl, m, rfl, hm, ha, hb⟩
    · rw [whT_cons (whL_set v 0 x l)] at hc
      rcases List.mem_append.1 hc with hc | hc
      · rcases List.mem_append.1 hc with hc | hc
        · exact itoa_ascii (by omega) c hc
        · rcases List.mem_cons.1 hc with rfl | hc
          · decide
          · exact exT_ascii 40 x q1 q4 q3 c hc
      · exact tail l (by omega) hl c hc
    · rw [whT_cons (whL_while 0 m x l)] at hc
      rcases List.mem_append.1 hc with hc | hc
      · rcases List.mem_cons.1 hc with rfl | hc
        · decide
        rcases List.mem_append.1 hc with hc | hc
        · exact exT_ascii 40 x q1 q4 q3 c hc
        rcases List.mem_cons.1 hc with rfl | hc
        · decide
        rcases List.mem_append.1 hc with hc | hc
        · exact whT_ascii n (l.take m) (by rw [List.length_take]; omega) ha c hc
        · rw [List.mem_singleton] at hc; subst hc; decide
      · exact tail (l.drop m) (by rw [List.length_drop]; omega) hb c hc

/-! ### what ReadWhile gives -/
def rwS (s : List UInt8) : List Cmd × Bool := if (sxA s 80 0).2.2 = true ∧ s ≠ [] ∧ validW (sxA s 80 0).1 = true ∧ whT (sxA s 80 0).1 = s then ((sxA s 80 0).1, true) else ([], false)
def rwI (s : List UInt8) : List Cmd × Bool := if (ixC (runesL s).length [] (runesL s, false, 3200)).2.2.1 = false ∧ (ixC (runesL s).length [] (runesL s, false, 3200)).1 ≠ [] ∧ whR (ixC (runesL s).length [] (runesL s, false, 3200)).1 = s
  then ((ixC (runesL s).length [] (runesL s, false, 3200)).1, true) else ([], false)
theorem rw_text {p : List Cmd} (hv : validW p = true) (hp : p ≠ []) : rwS (whT p) = (p, true) ∧ rwI (whT p) = (p, true) := by
  have hv' := hv
  simp only [validW, Bool.and_eq_true, decide_eq_true_eq] at hv'
  constructor
  · rw [rwS, sxA_read hv, if_pos ⟨rfl, fun h => hp (whT_ne h), hv, rfl⟩]
  · have e := runesL_ascii (whT_ascii _ p (Nat.le_refl _) hv'.2)
    rw [rwI, e, ixC_text hv, if_pos ⟨rfl, hp, by rw [whR, if_pos hv]⟩]
theorem rw_eq (s : List UInt8) : rwI s = rwS s := by
  by_cases h : ∃ p, validW p = true ∧ p ≠ [] ∧ whT p = s
  · obtain ⟨p, h1, h2, rfl⟩ := h
    obtain ⟨e1, e2⟩ := rw_text h1 h2
    rw [e1, e2]
  · have e1 : rwS s = ([], false) := by
      rw [rwS, if_neg]
      rintro ⟨_, h2, h3, h4⟩
      exact h ⟨_, h3, fun e => h2 (by rw [← h4, e, whT_nil]), h4⟩
    have e2 : rwI s = ([], false) := by
      rw [rwI, if_neg]
      rintro ⟨_, h2, h3⟩
      by_cases h4 : validW (ixC (runesL s).length [] (runesL s, false, 3200)).1 = true
      · rw [whR, if_pos h4] at h3
        exact h ⟨_, h4, h2, h3⟩
      · rw [whR, if_neg h4] at h3
        subst h3
        exact h2 rfl
    rw [e1, e2]
theorem rwS_ok {s : List UInt8} : (rwS s).1.length ≤ 80 ∧ ∀ c ∈ (rwS s).1, c.2.2.2.length ≤ 40 := by
  unfold rwS
  split
  · rename_i h
    obtain ⟨h1, h2⟩ := validW_all h.2.2.1
    exact ⟨h1, fun c hc => (validE_end (h2 c hc).1).2.2.1⟩
  · exact ⟨by simp, fun c hc => by cases hc⟩
end Go.Proofs.YtkchgjegdmcnaaaDoor
