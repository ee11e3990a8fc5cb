/-
  A formula tape in memory that is changed: the tape behind a pointer, its rows, what a store does. Nothing of the program.
-/
import Derived.Test.YtmmgejnhfpfmnaaC27f
namespace Go.Proofs.Ytmmgejnhfpfmnaa

/-- blanks at the front that are not under the head: the word behind them, the head's place -/
def stripF (hd : Int) : List Int → Int → List Int × Int
  | [], a => ([], a)
  | x :: l, a => if x = 0 ∧ ¬ (hd = 0 ∧ a = 0) then stripF hd l (if hd = 0 then a - 1 else a) else (x :: l, a)
/-- .. at the end -/
def stripE (hd a r : Int) (xs : List Int) : Nat → List Int
  | 0 => []
  | n + 1 => if xs.getD n 0 = 0 ∧ ¬ (hd = r ∧ a = n) then stripE hd a r xs n else xs.take (n + 1)
/-- symbols that go from the wall ahead of a repeater to the one behind it -/
def rotG (hd i : Int) (A : List Int) : Nat → List Int → List Int → Int → List Int × List Int × List Int × Int
  | 0, p, b, a => ([], p, b, a)
  | n + 1, p, b, a => if A.getD n 0 = p.getD (p.length - 1) 0 ∧ ¬ (hd = i ∧ a = n) then rotG hd i A n (A.getD n 0 :: p.take (p.length - 1)) (A.getD n 0 :: b) (if hd = i + 1 then a + 1 else a) else (A.take (n + 1), p, b, a)
/-- a repeater's symbols taken from the wall behind it -/
def absG (hd j : Int) (p : List Int) : Nat → List Int → Int → Int → List Int × Int × Int
  | 0, b, a, o => (b, a, o)
  | f + 1, b, a, o => if p <+: b ∧ ¬ (hd = j ∧ a < p.length) then absG hd j p f (b.drop p.length) (if hd = j then a - p.length else a) (o + 1) else (b, a, o)
structure NF where
  a : Int
  ws : List (List Int)
  rs : List (List Int)
  os : List Int
def touchB (hd : Int) (i : Nat) (S : NF) : Bool := (decide (hd = i) && decide (S.a = ((S.ws.getD i []).length : Nat))) || (decide (hd = i + 1) && decide (S.a = -1))
def stripL (hd : Int) (S : NF) : NF := ⟨(stripF hd (S.ws.getD 0 []) S.a).2, S.ws.set 0 (stripF hd (S.ws.getD 0 []) S.a).1, S.rs, S.os⟩
def stripR (hd : Int) (r : Nat) (S : NF) : NF := ⟨S.a, S.ws.set r (stripE hd S.a r (S.ws.getD r []) (S.ws.getD r []).length), S.rs, S.os⟩
def stripN (hd : Int) (r : Nat) (S : NF) : NF := stripR hd r (stripL hd S)
def rotX (hd : Int) (i : Nat) (S : NF) := rotG hd i (S.ws.getD i []) (S.ws.getD i []).length (S.rs.getD i []) (S.ws.getD (i + 1) []) S.a
def rotN (hd : Int) (i : Nat) (S : NF) : NF := ⟨(rotX hd i S).2.2.2, (S.ws.set i (rotX hd i S).1).set (i + 1) (rotX hd i S).2.2.1, S.rs.set i (rotX hd i S).2.1, S.os⟩
def absX (hd : Int) (i : Nat) (S : NF) := absG hd (i + 1 : Nat) (S.rs.getD i []) (S.ws.getD (i + 1) []).length (S.ws.getD (i + 1) []) S.a (S.os.getD i 0)
def absN (hd : Int) (i : Nat) (S : NF) : NF := ⟨(absX hd i S).2.1, S.ws.set (i + 1) (absX hd i S).1, S.rs, S.os.set i (absX hd i S).2.2⟩
def roundN (hd : Int) (f : Nat → NF → NF) (i : Nat) (S : NF) : NF := if touchB hd i S then S else f i S
def loopN (hd : Int) (f : Nat → NF → NF) : Nat → Nat → NF → NF
  | 0, _, S => S
  | k + 1, i, S => loopN hd f k (i + 1) (roundN hd f i S)
def normN (hd : Int) (r : Nat) (S : NF) : NF := loopN hd (absN hd) r 0 (loopN hd (rotN hd) r 0 (stripN hd r S))

def sumW : List (List Int) → Nat
  | [] => 0
  | x :: l => x.length + sumW l
theorem sumW_set : ∀ (l : List (List Int)) (i : Nat) (x : List Int), i < l.length → sumW (l.set i x) + (l.getD i []).length = sumW l + x.length
  | [], i, x, h => by simp at h
  | y :: l, 0, x, _ => by simp [sumW]; omega
  | y :: l, i + 1, x, h => by
    have := sumW_set l i x (by simpa using h)
    simp [sumW] at this ⊢; omega
theorem sumW_at : ∀ (l : List (List Int)) (i : Nat), (l.getD i []).length ≤ sumW l
  | [], i => by simp [sumW]
  | y :: l, 0 => by simp [sumW]
  | y :: l, i + 1 => by
    have := sumW_at l i
    simp [sumW] at this ⊢; omega
/-- sizes: walls of 400 symbols in all, repeaters of at most 20 symbols and no empty one, the head's place and the offsets not far away; k: what may have been added -/
structure OkN (r : Nat) (k : Nat) (S : NF) : Prop where
  nw : S.ws.length = r + 1
  nr : S.rs.length = r
  no : S.os.length = r
  sum : sumW S.ws ≤ 400
  rep : ∀ p ∈ S.rs, 1 ≤ p.length ∧ p.length ≤ 20
  a : -1 - (k : Int) ≤ S.a ∧ S.a ≤ 100 + (k : Int)
  o : ∀ x ∈ S.os, -1000 - (k : Int) ≤ x ∧ x ≤ 1000 + (k : Int)
theorem stripF_sz (hd : Int) : ∀ (l : List Int) (a : Int), (stripF hd l a).1.length ≤ l.length ∧ a - l.length ≤ (stripF hd l a).2 ∧ (stripF hd l a).2 ≤ a
  | [], a => by simp [stripF]
  | x :: l, a => by
    rw [stripF]
    split
    · have h := stripF_sz hd l (if hd = 0 then a - 1 else a)
      simp only [List.length_cons]
      by_cases e : hd = 0
      · simp only [e, if_true] at h ⊢; omega
      · simp only [e, if_false] at h ⊢; omega
    · simp; omega
theorem stripE_sz (hd a r : Int) (xs : List Int) : ∀ n, (stripE hd a r xs n).length ≤ n
  | 0 => by simp [stripE]
  | n + 1 => by
    rw [stripE]
    split
    · have := stripE_sz hd a r xs n; omega
    · simp; omega
theorem rotG_sz (hd i : Int) (A : List Int) : ∀ (n : Nat) (p b : List Int) (a : Int), 1 ≤ p.length → n ≤ A.length → (rotG hd i A n p b a).1.length + (rotG hd i A n p b a).2.2.1.length = n + b.length ∧ (rotG hd i A n p b a).2.1.length = p.length ∧ a ≤ (rotG hd i A n p b a).2.2.2 ∧ (rotG hd i A n p b a).2.2.2 ≤ a + n
  | 0, p, b, a, _, _ => by simp [rotG]
  | n + 1, p, b, a, hp, hn => by
    rw [rotG]
    split
    · have h := rotG_sz hd i A n (A.getD n 0 :: p.take (p.length - 1)) (A.getD n 0 :: b) (if hd = i + 1 then a + 1 else a) (by simp) (by omega)
      simp only [List.length_cons, List.length_take] at h
      by_cases e : hd = i + 1
      · simp only [e, if_true] at h ⊢; omega
      · simp only [e, if_false] at h ⊢; omega
    · simp; omega
theorem absG_sz (hd j : Int) (p : List Int) : ∀ (f : Nat) (b : List Int) (a o : Int), (absG hd j p f b a o).1.length ≤ b.length ∧ (absG hd j p f b a o).2.1 ≤ a ∧ (0 ≤ a → 0 ≤ (absG hd j p f b a o).2.1) ∧ (a < 0 → (absG hd j p f b a o).2.1 = a) ∧ o ≤ (absG hd j p f b a o).2.2 ∧ (absG hd j p f b a o).2.2 ≤ o + f
  | 0, b, a, o => by simp [absG]
  | f + 1, b, a, o => by
    rw [absG]
    split
    · rename_i hc
      have h := absG_sz hd j p f (b.drop p.length) (if hd = j then a - p.length else a) (o + 1)
      simp only [List.length_drop] at h
      by_cases e : hd = j
      · simp only [e, if_true] at h ⊢
        have h2 : (p.length : Int) ≤ a := by
          have := hc.2; simp [e] at this; omega
        refine ⟨by omega, by omega, fun _ => h.2.2.1 (by omega), fun h0 => by omega, by omega, by omega⟩
      · simp only [e, if_false] at h ⊢
        refine ⟨by omega, by omega, fun h0 => h.2.2.1 h0, fun h0 => h.2.2.2.1 h0, by omega, by omega⟩
    · simp; omega
section
variable {r k : Nat} {S : NF} {hd : Int} {i : Nat}
theorem getD_mem {α : Type} {l : List α} {i : Nat} {d : α} (h : i < l.length) : l.getD i d ∈ l := by
  rw [List.getD_eq_getElem?_getD, List.getElem?_eq_getElem h]; exact List.getElem_mem h
theorem OkN.stripL (h : OkN r k S) : OkN r (k + 400) (stripL hd S) := by
  obtain ⟨h1, h2, h3, h4, h5, h6, h7⟩ := h
  have hz := stripF_sz hd (S.ws.getD 0 []) S.a
  have hs := sumW_at S.ws 0
  have ht := sumW_set S.ws 0 (stripF hd (S.ws.getD 0 []) S.a).1 (by omega)
  exact ⟨by simpa [Go.Proofs.Ytmmgejnhfpfmnaa.stripL] using h1, h2, h3, by show sumW (S.ws.set 0 _) ≤ _; omega, h5, ⟨by show _ ≤ (stripF hd (S.ws.getD 0 []) S.a).2; omega, by show (stripF hd (S.ws.getD 0 []) S.a).2 ≤ _; omega⟩, fun x hx => by have := h7 x hx; omega⟩
theorem OkN.stripR (h : OkN r k S) : OkN r k (stripR hd r S) := by
  obtain ⟨h1, h2, h3, h4, h5, h6, h7⟩ := h
  have hz := stripE_sz hd S.a r (S.ws.getD r []) (S.ws.getD r []).length
  have ht := sumW_set S.ws r (stripE hd S.a r (S.ws.getD r []) (S.ws.getD r []).length) (by omega)
  exact ⟨by simpa [Go.Proofs.Ytmmgejnhfpfmnaa.stripR] using h1, h2, h3, by show sumW (S.ws.set r _) ≤ _; omega, h5, h6, h7⟩
theorem OkN.rot (h : OkN r k S) (hi : i < r) : OkN r (k + 400) (rotN hd i S) := by
  obtain ⟨h1, h2, h3, h4, h5, h6, h7⟩ := h
  have hp := h5 _ (getD_mem (d := []) (show i < S.rs.length by omega))
  have hz := rotG_sz hd i (S.ws.getD i []) (S.ws.getD i []).length (S.rs.getD i []) (S.ws.getD (i + 1) []) S.a hp.1 (Nat.le_refl _)
  have hs := sumW_at S.ws i
  have e1 := sumW_set S.ws i (rotX hd i S).1 (by omega)
  have e2 := sumW_set (S.ws.set i (rotX hd i S).1) (i + 1) (rotX hd i S).2.2.1 (by rw [List.length_set]; omega)
  have e3 : (S.ws.set i (rotX hd i S).1).getD (i + 1) [] = S.ws.getD (i + 1) [] := by simp [List.getD_eq_getElem?_getD]
  rw [e3] at e2
  rw [show rotG hd i (S.ws.getD i []) (S.ws.getD i []).length (S.rs.getD i []) (S.ws.getD (i + 1) []) S.a = rotX hd i S from rfl] at hz
  refine ⟨by simp [rotN, h1], by simp [rotN, h2], h3, by show sumW ((S.ws.set i _).set (i + 1) _) ≤ _; omega, fun q hq => ?_, ⟨by show _ ≤ (rotX hd i S).2.2.2; omega, by show (rotX hd i S).2.2.2 ≤ _; omega⟩, fun x hx => by have := h7 x hx; omega⟩
  rcases List.mem_or_eq_of_mem_set hq with hq | rfl
  · exact h5 q hq
  · omega
theorem OkN.abs (h : OkN r k S) (hi : i < r) : OkN r (k + 400) (absN hd i S) := by
  obtain ⟨h1, h2, h3, h4, h5, h6, h7⟩ := h
  have ho := h7 _ (getD_mem (d := 0) (show i < S.os.length by omega))
  have hz := absG_sz hd (i + 1 : Nat) (S.rs.getD i []) (S.ws.getD (i + 1) []).length (S.ws.getD (i + 1) []) S.a (S.os.getD i 0)
  have hs := sumW_at S.ws (i + 1)
  have e1 := sumW_set S.ws (i + 1) (absX hd i S).1 (by omega)
  rw [show absG hd (i + 1 : Nat) (S.rs.getD i []) (S.ws.getD (i + 1) []).length (S.ws.getD (i + 1) []) S.a (S.os.getD i 0) = absX hd i S from rfl] at hz
  have ha : -1 - (k : Int) ≤ (absX hd i S).2.1 := by
    by_cases h0 : 0 ≤ S.a
    · have := hz.2.2.1 h0; omega
    · have := hz.2.2.2.1 (by omega); omega
  refine ⟨by simp [absN, h1], h2, by simp [absN, h3], by show sumW (S.ws.set (i + 1) _) ≤ _; omega, h5, ⟨by show _ ≤ (absX hd i S).2.1; omega, by show (absX hd i S).2.1 ≤ _; omega⟩, fun x hx => ?_⟩
  rcases List.mem_or_eq_of_mem_set hx with hx | rfl
  · have := h7 x hx; omega
  · omega
theorem OkN.more {k' : Nat} (h : OkN r k S) (hk : k ≤ k') : OkN r k' S :=
  ⟨h.nw, h.nr, h.no, h.sum, h.rep, by have := h.a; omega, fun x hx => by have := h.o x hx; omega⟩
theorem OkN.round {f : Nat → NF → NF} (hf : OkN r (k + 400) (f i S)) (h : OkN r k S) : OkN r (k + 400) (roundN hd f i S) := by
  unfold roundN; split
  · exact h.more (by omega)
  · exact hf
end
open Go.RowKit

section
variable {w w' : World} {lo hi hi' : Nat} {pre post ss tt : List Seg} {s t : Seg}
theorem WrS.permN (h : WrS w lo hi ss) (hp : ss.Perm tt) : WrS w lo hi tt :=
  ⟨fun s hs => h.each s (hp.mem_iff.2 hs), (hp.pairwise_iff (fun h1 a b ha hb hn hm e => h1 b a hb ha hm hn e.symm)).1 h.apart⟩
theorem WrS.setAt {ad : Addr} {n k : Nat} {vs : List Value} (h : WrS w lo hi (pre ++ ⟨some ad, n, vs⟩ :: post)) (hk : k < n) (u : Value) : WrS (w.setCell (ad.add k) u) lo hi (pre ++ ⟨some ad, n, vs.set k u⟩ :: post) := by
  obtain ⟨l, r, hw, _, hf⟩ := h.range
  refine hf _ _ ?_ (hw.set hk u)
  obtain ⟨ad', v, e, h1, h2, _⟩ := hw.at_ hk
  injection e with e; subst e
  exact (KeepR.refl l r w).setCell (by rw [block_add]; exact h1) (by rw [block_add]; exact h2) u
theorem WrS.swap (h : WrS w lo hi (pre ++ s :: post)) (ht : Wr w hi hi' t.A t.n t.vs) (h1 : lo ≤ hi) (h2 : hi ≤ hi') : WrS w lo hi' (pre ++ t :: post) := by
  have h3 : WrS w lo hi (pre ++ post) := (h.permN List.perm_middle).tail
  exact (h3.append (WrS.one ht) h1 h2).permN ((List.perm_append_singleton t _).trans List.perm_middle.symm)
theorem WrS.sub1 (h : WrS w lo hi (pre ++ s :: post)) (ht : Wr w lo hi t.A t.n t.vs) (hb : ∀ b, t.A = some b → 0 < t.n → 0 < s.n ∧ ∃ a, s.A = some a ∧ a.block = b.block) : WrS w lo hi (pre ++ t :: post) := by
  have h3 := h.permN List.perm_middle
  have h4 := List.pairwise_cons.1 h3.apart
  refine (show WrS w lo hi (t :: (pre ++ post)) from ⟨fun u hu => ?_, List.pairwise_cons.2 ⟨fun u hu a b ha hb' hn hm => ?_, h4.2⟩⟩).permN List.perm_middle.symm
  · rcases List.mem_cons.1 hu with rfl | hu
    · exact ht
    · exact h3.each u (by simp [hu])
  · obtain ⟨h5, a', ea, e⟩ := hb a ha hn
    rw [← e]
    exact h4.1 u hu a' b ea hb' h5 hm
theorem Wr.drop {ad : Addr} {n k : Nat} {vs : List Value} (h : Wr w lo hi (some ad) n vs) (hk : k ≤ n) : Wr w lo hi (some (ad.add k)) (n - k) (vs.drop k) := by
  refine ⟨by rw [List.length_drop, h.1], fun hn => ?_⟩
  obtain ⟨ad', e, h1, h2, h3, hc⟩ := h.2 (by omega)
  injection e with e; subst e
  refine ⟨_, rfl, by rw [block_add]; exact h1, by rw [block_add]; exact h2, by rw [block_add]; exact h3, fun j v hj => ?_⟩
  rw [add_add]
  rw [List.getElem?_drop] at hj
  exact hc (k + j) v hj
end
/-- a part of a row of numbers -/
structure SubI (t t' : It) : Prop where
  sub : ∃ j, j + t'.n ≤ t.n ∧ t'.xs = (t.xs.drop j).take t'.n ∧ (0 < t'.n → ∀ ad, t.A = some ad → t'.A = some (ad.add j))
theorem SubI.wr {w : World} {lo hi : Nat} {t t' : It} (h : SubI t t') (hw : Wr w lo hi t.A t.n (t.xs.map i64)) : Wr w lo hi t'.A t'.n (t'.xs.map i64) ∧ ∀ b, t'.A = some b → 0 < t'.n → 0 < t.n ∧ ∃ a, t.A = some a ∧ a.block = b.block := by
  obtain ⟨j, hj, hx, ha⟩ := h.sub
  by_cases hn : 0 < t'.n
  · obtain ⟨ad, v, e, _⟩ := hw.at_ (show 0 < t.n by omega)
    have e' := ha hn ad e
    rw [e] at hw
    refine ⟨?_, fun b hb h0 => ⟨by omega, ad, e, ?_⟩⟩
    · rw [e', hx, List.map_take, List.map_drop]
      exact (hw.drop (by omega)).take (by omega)
    · rw [e'] at hb; injection hb with hb; rw [← hb, block_add]
  · have hz : t'.n = 0 := by omega
    have hx' : t'.xs = [] := by rw [hx, hz, List.take_zero]
    rw [hz, hx']
    exact ⟨Wr.nil, fun b _ h0 => by omega⟩
def boxS (g : Nat) (s hd a : Int) (A0 : Option Addr) (n0 c0 : Nat) (A1 : Option Addr) (n1 c1 : Nat) (A2 : Option Addr) (n2 c2 : Nat) : Seg := ⟨some ⟨g, 0, none⟩, 6, [i64 s, i64 hd, i64 a, .slice A0 n0 c0, .slice A1 n1 c1, .slice A2 n2 c2]⟩
/-- a formula tape of the call's own behind a pointer; blocks below lo are as they were in world w0 -/
structure FormW (w0 : World) (lo : Nat) (w : World) (g : Nat) (s hd a : Int) (A0 : Option Addr) (n0 c0 : Nat) (its0 : List It) (A1 : Option Addr) (n1 c1 : Nat) (its1 : List It) (A2 : Option Addr) (n2 c2 : Nat) (os : List Int) : Prop where
  wr : WrS w lo w.heap.size (boxS g s hd a A0 n0 c0 A1 n1 c1 A2 n2 c2 :: sgForm A0 n0 its0 A1 n1 its1 A2 n2 os)
  below : Below lo w0 w
  lo : lo ≤ w.heap.size
  k0 : ∀ t ∈ its0, t.n ≤ t.c
  k1 : ∀ t ∈ its1, t.n ≤ t.c
  frame : ∀ b, b < w0.heap.size → b ≠ g → (∀ ad, A0 = some ad → b ≠ ad.block) → (∀ ad, A1 = some ad → b ≠ ad.block) → (∀ ad, A2 = some ad → b ≠ ad.block) → w.heap[b]? = w0.heap[b]?
  base : w0.heap.size ≤ w.heap.size
theorem map_set_mid {α β : Type} (f : α → β) {l : List α} {k : Nat} (h : k < l.length) (x : α) : (l.set k x).map f = (l.take k).map f ++ f x :: (l.drop (k + 1)).map f := by
  rw [List.set_eq_take_append_cons_drop, if_pos h, List.map_append, List.map_cons]
theorem map_mid {α β : Type} (f : α → β) {l : List α} {k : Nat} {x : α} (h : l[k]? = some x) : l.map f = (l.take k).map f ++ f x :: (l.drop (k + 1)).map f := by
  obtain ⟨hk, rfl⟩ := List.getElem?_eq_some_iff.1 h
  have := map_set_mid f hk l[k]
  rwa [List.set_getElem_self] at this
section
variable {w0 w w' : World} {lo g : Nat} {s hd a : Int} {A0 : Option Addr} {n0 c0 : Nat} {its0 : List It} {A1 : Option Addr} {n1 c1 : Nat} {its1 : List It} {A2 : Option Addr} {n2 c2 : Nat} {os : List Int}
theorem FormW.form (h : FormW w0 lo w g s hd a A0 n0 c0 its0 A1 n1 c1 its1 A2 n2 c2 os) : FormP w g s hd a A0 n0 c0 its0 A1 n1 c1 its1 A2 n2 c2 os := by
  have h1 := h.wr.rd
  obtain ⟨_, hc⟩ := h1.head
  obtain ⟨ad, e, _, hc⟩ := hc (by show 0 < 6; omega)
  injection e with e; subst e
  have d := fun j v hj => (head_add g j) ▸ hc j v hj
  exact ⟨d 0 _ rfl, d 1 _ rfl, d 2 _ rfl, d 3 _ rfl, d 4 _ rfl, d 5 _ rfl, h1.tail.left.left, h1.tail.left.right, h1.tail.right.head⟩
theorem FormW.world (h : FormW w0 lo w g s hd a A0 n0 c0 its0 A1 n1 c1 its1 A2 n2 c2 os) (hb : Below w.heap.size w w') : FormW w0 lo w' g s hd a A0 n0 c0 its0 A1 n1 c1 its1 A2 n2 c2 os :=
  ⟨(h.wr.below hb).wider (Nat.le_refl _) hb.size, below_chain h.below h.lo hb, Nat.le_trans h.lo hb.size, h.k0, h.k1, fun b h1 h2 h3 h4 h5 => (hb.block b (Nat.lt_of_lt_of_le h1 h.base)).trans (h.frame b h1 h2 h3 h4 h5), Nat.le_trans h.base hb.size⟩
theorem set_all {α : Type} {p : α → Prop} {l : List α} {k : Nat} {x : α} (h : ∀ t ∈ l, p t) (hx : p x) : ∀ t ∈ l.set k x, p t := by
  intro t ht
  rcases List.mem_or_eq_of_mem_set ht with h1 | rfl
  · exact h t h1
  · exact hx
/-- from another world on -/
theorem FormW.rebase (h : FormW w0 lo w g s hd a A0 n0 c0 its0 A1 n1 c1 its1 A2 n2 c2 os) : FormW w lo w g s hd a A0 n0 c0 its0 A1 n1 c1 its1 A2 n2 c2 os :=
  ⟨h.wr, Below.refl _ _, h.lo, h.k0, h.k1, fun _ _ _ _ _ _ => rfl, Nat.le_refl _⟩
theorem FormW.back {v0 : World} (h : FormW w0 lo w g s hd a A0 n0 c0 its0 A1 n1 c1 its1 A2 n2 c2 os) (hb : Below lo v0 w0) (hl : v0.heap.size ≤ lo) : FormW v0 lo w g s hd a A0 n0 c0 its0 A1 n1 c1 its1 A2 n2 c2 os :=
  ⟨h.wr, hb.trans h.below, h.lo, h.k0, h.k1, fun b h1 _ _ _ _ => (hb.trans h.below).block b (Nat.lt_of_lt_of_le h1 hl), Nat.le_trans hl h.lo⟩
theorem FormW.gblock (h : FormW w0 lo w g s hd a A0 n0 c0 its0 A1 n1 c1 its1 A2 n2 c2 os) : lo ≤ g ∧ g < w.heap.size := by
  obtain ⟨ad, v, e, h1, h2, _⟩ := h.wr.head.at_ (k := 0) (by show 0 < 6; omega)
  injection e with e; subst e
  exact ⟨h1, h2⟩
theorem FormW.frz {k : Nat} (h : FormW w0 lo w g s hd a A0 n0 c0 its0 A1 n1 c1 its1 A2 n2 c2 os) (hk : k < 6) : w.frozen? ⟨g, k, none⟩ = false := by
  have := h.wr.head.2 (by show 0 < 6; omega)
  obtain ⟨ad, e, _, _, _, hc⟩ := this
  injection e with e; subst e
  have := (hc k _ (List.getElem?_eq_getElem (show k < [i64 s, i64 hd, i64 a, .slice A0 n0 c0, .slice A1 n1 c1, .slice A2 n2 c2].length by simpa using hk))).2
  rwa [head_add] at this
theorem FormW.frz0 {k : Nat} {ad : Addr} (h : FormW w0 lo w g s hd a (some ad) n0 c0 its0 A1 n1 c1 its1 A2 n2 c2 os) (hk : k < n0) : lo ≤ ad.block ∧ w.frozen? (ad.add k) = false := by
  have h1 := (h.wr.tail.each ⟨some ad, n0, its0.map hdI⟩ (by simp [sgForm, sgII]))
  obtain ⟨ad', e, h2, _, _, hc⟩ := h1.2 (by show 0 < n0; omega)
  injection e with e; subst e
  refine ⟨h2, (hc k _ (List.getElem?_eq_getElem ?_)).2⟩
  have := h1.1; simp only at this; show k < (its0.map hdI).length; omega
theorem FormW.frz1 {k : Nat} {ad : Addr} (h : FormW w0 lo w g s hd a A0 n0 c0 its0 (some ad) n1 c1 its1 A2 n2 c2 os) (hk : k < n1) : lo ≤ ad.block ∧ w.frozen? (ad.add k) = false := by
  have h1 := (h.wr.tail.each ⟨some ad, n1, its1.map hdI⟩ (by simp [sgForm, sgII]))
  obtain ⟨ad', e, h2, _, _, hc⟩ := h1.2 (by show 0 < n1; omega)
  injection e with e; subst e
  refine ⟨h2, (hc k _ (List.getElem?_eq_getElem ?_)).2⟩
  have := h1.1; simp only at this; show k < (its1.map hdI).length; omega
theorem FormW.frz2 {k : Nat} {ad : Addr} (h : FormW w0 lo w g s hd a A0 n0 c0 its0 A1 n1 c1 its1 (some ad) n2 c2 os) (hk : k < n2) : lo ≤ ad.block ∧ w.frozen? (ad.add k) = false := by
  have h1 := (h.wr.tail.each ⟨some ad, n2, os.map i64⟩ (by simp [sgForm, sgI]))
  obtain ⟨ad', e, h2, _, _, hc⟩ := h1.2 (by show 0 < n2; omega)
  injection e with e; subst e
  refine ⟨h2, (hc k _ (List.getElem?_eq_getElem ?_)).2⟩
  have := h1.1; simp only at this; show k < (os.map i64).length; omega
theorem FormW.setA (h : FormW w0 lo w g s hd a A0 n0 c0 its0 A1 n1 c1 its1 A2 n2 c2 os) (a' : Int) : FormW w0 lo (w.setCell ⟨g, 2, none⟩ (i64 a')) g s hd a' A0 n0 c0 its0 A1 n1 c1 its1 A2 n2 c2 os := by
  have h1 := WrS.setAt (pre := []) (ad := ⟨g, 0, none⟩) (k := 2) h.wr (by omega) (i64 a')
  rw [head_add] at h1
  exact ⟨by simpa [boxS] using h1, h.below.setCell h.gblock.1 _, by simpa using h.lo, h.k0, h.k1, fun b h1 h2 h3 h4 h5 => (Below.heap_setCell w _ _ b h2).trans (h.frame b h1 h2 h3 h4 h5), by simpa using h.base⟩
theorem FormW.setO {k : Nat} {ad : Addr} (h : FormW w0 lo w g s hd a A0 n0 c0 its0 A1 n1 c1 its1 (some ad) n2 c2 os) (hk : k < n2) (v : Int) : FormW w0 lo (w.setCell (ad.add k) (i64 v)) g s hd a A0 n0 c0 its0 A1 n1 c1 its1 (some ad) n2 c2 (os.set k v) := by
  have h1 := WrS.setAt (pre := boxS g s hd a A0 n0 c0 A1 n1 c1 (some ad) n2 c2 :: (sgII A0 n0 its0 ++ sgII A1 n1 its1)) (ad := ad) (k := k) (n := n2) (vs := os.map i64) (post := []) (by have := h.wr; simpa [sgForm, sgI] using this) hk (i64 v)
  rw [← List.map_set] at h1
  exact ⟨by simpa [sgForm, sgI] using h1, h.below.setCell (by rw [block_add]; exact (h.frz2 hk).1) _, by simpa using h.lo, h.k0, h.k1, fun b h1 h2 h3 h4 h5 => (Below.heap_setCell w _ _ b (by rw [block_add]; exact h5 ad rfl)).trans (h.frame b h1 h2 h3 h4 h5), by simpa using h.base⟩
theorem FormW.newW {k : Nat} {ad : Addr} {t' : It} (h : FormW w0 lo w g s hd a (some ad) n0 c0 its0 A1 n1 c1 its1 A2 n2 c2 os) (hk : k < n0) (hb : Below w.heap.size w w') (ht : Wr w' w.heap.size w'.heap.size t'.A t'.n (t'.xs.map i64)) (hc : t'.n ≤ t'.c) :
    FormW w0 lo (w'.setCell (ad.add k) (.slice t'.A t'.n t'.c)) g s hd a (some ad) n0 c0 (its0.set k t') A1 n1 c1 its1 A2 n2 c2 os := by
  have hl := RdII.len h.form.r0
  have hkl : k < its0.length := by omega
  have h1 := h.wr.below hb
  rw [sgForm, sgII, map_mid bodyI (List.getElem?_eq_getElem hkl)] at h1
  have h2 := WrS.swap (pre := boxS g s hd a (some ad) n0 c0 A1 n1 c1 A2 n2 c2 :: ⟨some ad, n0, its0.map hdI⟩ :: (its0.take k).map bodyI) (s := bodyI its0[k]) (t := bodyI t') (post := (its0.drop (k + 1)).map bodyI ++ (sgII A1 n1 its1 ++ [sgI A2 n2 os])) (by simpa using h1) ht h.lo hb.size
  have h3 := WrS.setAt (pre := [boxS g s hd a (some ad) n0 c0 A1 n1 c1 A2 n2 c2]) (ad := ad) (n := n0) (k := k) (vs := its0.map hdI) h2 hk (hdI t')
  rw [← List.map_set] at h3
  refine ⟨?_, (below_chain h.below h.lo hb).setCell (by rw [block_add]; exact (h.frz0 hk).1) _, by simpa using Nat.le_trans h.lo hb.size, set_all h.k0 hc, h.k1, fun b h1 h2 h3 h4 h5 => (Below.heap_setCell w' _ _ b (by rw [block_add]; exact h3 ad rfl)).trans ((hb.block b (Nat.lt_of_lt_of_le h1 h.base)).trans (h.frame b h1 h2 h3 h4 h5)), by simpa using Nat.le_trans h.base hb.size⟩
  rw [sgForm, sgII, map_set_mid bodyI hkl]
  simpa [hdI] using h3
theorem FormW.subW {k : Nat} {ad : Addr} {t t' : It} (h : FormW w0 lo w g s hd a (some ad) n0 c0 its0 A1 n1 c1 its1 A2 n2 c2 os) (ht : its0[k]? = some t) (hs : SubI t t') (hc : t'.n ≤ t'.c) :
    FormW w0 lo (w.setCell (ad.add k) (.slice t'.A t'.n t'.c)) g s hd a (some ad) n0 c0 (its0.set k t') A1 n1 c1 its1 A2 n2 c2 os := by
  have hl := RdII.len h.form.r0
  obtain ⟨hkl, _⟩ := List.getElem?_eq_some_iff.1 ht
  have hk : k < n0 := by omega
  have h1 := h.wr
  rw [sgForm, sgII, map_mid bodyI ht] at h1
  have hw : Wr w lo w.heap.size t.A t.n (t.xs.map i64) := h.wr.each (bodyI t) (by simp only [sgForm, sgII, List.mem_cons, List.mem_append, List.mem_map]; exact .inr (.inl (.inl (.inr ⟨t, List.mem_of_getElem? ht, rfl⟩))))
  have h2 := WrS.sub1 (pre := boxS g s hd a (some ad) n0 c0 A1 n1 c1 A2 n2 c2 :: ⟨some ad, n0, its0.map hdI⟩ :: (its0.take k).map bodyI) (s := bodyI t) (t := bodyI t') (post := (its0.drop (k + 1)).map bodyI ++ (sgII A1 n1 its1 ++ [sgI A2 n2 os])) (by simpa using h1) (hs.wr hw).1 (hs.wr hw).2
  have h3 := WrS.setAt (pre := [boxS g s hd a (some ad) n0 c0 A1 n1 c1 A2 n2 c2]) (ad := ad) (n := n0) (k := k) (vs := its0.map hdI) h2 hk (hdI t')
  rw [← List.map_set] at h3
  refine ⟨?_, h.below.setCell (by rw [block_add]; exact (h.frz0 hk).1) _, by simpa using h.lo, set_all h.k0 hc, h.k1, fun b h1 h2 h3 h4 h5 => (Below.heap_setCell w _ _ b (by rw [block_add]; exact h3 ad rfl)).trans (h.frame b h1 h2 h3 h4 h5), by simpa using h.base⟩
  rw [sgForm, sgII, map_set_mid bodyI hkl]
  simpa [hdI] using h3
theorem FormW.newR {k : Nat} {ad : Addr} {t' : It} (h : FormW w0 lo w g s hd a A0 n0 c0 its0 (some ad) n1 c1 its1 A2 n2 c2 os) (hk : k < n1) (hb : Below w.heap.size w w') (ht : Wr w' w.heap.size w'.heap.size t'.A t'.n (t'.xs.map i64)) (hc : t'.n ≤ t'.c) :
    FormW w0 lo (w'.setCell (ad.add k) (.slice t'.A t'.n t'.c)) g s hd a A0 n0 c0 its0 (some ad) n1 c1 (its1.set k t') A2 n2 c2 os := by
  have hl := RdII.len h.form.r1
  have hkl : k < its1.length := by omega
  have h1 := h.wr.below hb
  rw [sgForm, sgII, sgII, map_mid bodyI (List.getElem?_eq_getElem hkl)] at h1
  have h2 := WrS.swap (pre := boxS g s hd a A0 n0 c0 (some ad) n1 c1 A2 n2 c2 :: (sgII A0 n0 its0 ++ ⟨some ad, n1, its1.map hdI⟩ :: (its1.take k).map bodyI)) (s := bodyI its1[k]) (t := bodyI t') (post := (its1.drop (k + 1)).map bodyI ++ [sgI A2 n2 os]) (by simpa [sgII] using h1) ht h.lo hb.size
  have h3 := WrS.setAt (pre := boxS g s hd a A0 n0 c0 (some ad) n1 c1 A2 n2 c2 :: sgII A0 n0 its0) (ad := ad) (n := n1) (k := k) (vs := its1.map hdI) (post := (its1.take k).map bodyI ++ bodyI t' :: ((its1.drop (k + 1)).map bodyI ++ [sgI A2 n2 os])) (by simpa using h2) hk (hdI t')
  rw [← List.map_set] at h3
  refine ⟨?_, (below_chain h.below h.lo hb).setCell (by rw [block_add]; exact (h.frz1 hk).1) _, by simpa using Nat.le_trans h.lo hb.size, h.k0, set_all h.k1 hc, fun b h1 h2 h3 h4 h5 => (Below.heap_setCell w' _ _ b (by rw [block_add]; exact h4 ad rfl)).trans ((hb.block b (Nat.lt_of_lt_of_le h1 h.base)).trans (h.frame b h1 h2 h3 h4 h5)), by simpa using Nat.le_trans h.base hb.size⟩
  rw [sgForm, show sgII (some ad) n1 (its1.set k t') = ⟨some ad, n1, (its1.set k t').map hdI⟩ :: ((its1.take k).map bodyI ++ bodyI t' :: (its1.drop (k + 1)).map bodyI) by rw [sgII, map_set_mid bodyI hkl]]
  simpa [hdI] using h3
end
end Go.Proofs.Ytmmgejnhfpfmnaa
