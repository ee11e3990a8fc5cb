/-
  Contracts of chapter 27 (NormalFormula): words for the turning of a repeater.
-/
import Derived.Test.YtmmgejnhfpfmnaaC27m
import Derived.Test.YtmmgejnhfpfmnaaJoin
namespace Go.Proofs.Ytmmgejnhfpfmnaa
open Go.RowKit

section
variable {w0 w w' : World} {lo g : Nat} {s hd a : Int} {A0 : Option Addr} {n0 c0 : Nat} {its0 : List It} {A1 : Option Addr} {n1 c1 : Nat} {its1 : List It} {A2 : Option Addr} {n2 c2 : Nat} {os : List Int} {S : NF} {i k m : Nat} {ad : Addr} {t : It} {p b : List Int}
theorem FormW.at0 (h : FormW w0 lo w g s hd a (some ad) n0 c0 its0 A1 n1 c1 its1 A2 n2 c2 os) (ht : its0[i]? = some t) : w.cell? (ad.add i) = some (.slice t.A t.n t.c) ∧ RdI w t.A t.n t.xs ∧ t.n ≤ t.c ∧ w.frozen? (ad.add i) = false := by
  have hl := RdII.len h.form.r0
  have hi := (List.getElem?_eq_some_iff.1 ht).1
  obtain ⟨ad', t', e, ht', h1, h2, h3, h4⟩ := h.wall (i := i) (by omega)
  injection e with e; subst e
  obtain rfl : t' = t := Option.some.inj (ht'.symm.trans ht)
  exact ⟨h1, h2, h3, h4⟩
theorem FormW.at1 (h : FormW w0 lo w g s hd a A0 n0 c0 its0 (some ad) n1 c1 its1 A2 n2 c2 os) (ht : its1[i]? = some t) : w.cell? (ad.add i) = some (.slice t.A t.n t.c) ∧ RdI w t.A t.n t.xs ∧ t.n ≤ t.c ∧ w.frozen? (ad.add i) = false := by
  have hl := RdII.len h.form.r1
  have hi := (List.getElem?_eq_some_iff.1 ht).1
  obtain ⟨ad', t', e, ht', h1, h2, h3, h4⟩ := h.repeater (i := i) (by omega)
  injection e with e; subst e
  obtain rfl : t' = t := Option.some.inj (ht'.symm.trans ht)
  exact ⟨h1, h2, h3, h4⟩
theorem FormW.at2 {v : Int} (h : FormW w0 lo w g s hd a A0 n0 c0 its0 A1 n1 c1 its1 (some ad) n2 c2 os) (ht : os[i]? = some v) : w.cell? (ad.add i) = some (i64 v) ∧ w.frozen? (ad.add i) = false := by
  have hl := h.form.r2.len
  have hi := (List.getElem?_eq_some_iff.1 ht).1
  obtain ⟨ad', x, e, _, hx, hc⟩ := h.form.r2.at_ (k := i) (by omega)
  injection e with e; subst e
  obtain rfl : x = v := Option.some.inj (hx.symm.trans ht)
  exact ⟨hc, (h.frz2 (by omega)).2⟩
theorem addS (a : Addr) (n : Nat) : a.add (n + 1) = ⟨a.block, a.off + (n + 1), none⟩ := by simp [Addr.add]
/-- the turning: m symbols of the wall ahead of the repeater are left -/
def RoAt (w0 : World) (lo g : Nat) (s hd : Int) (A0 : Option Addr) (n0 c0 : Nat) (A1 : Option Addr) (n1 c1 : Nat) (A2 : Option Addr) (n2 c2 : Nat) (S : NF) (i m : Nat) (p b : List Int) (a : Int) (w : World) : Prop :=
  NfAt w0 lo g s hd A0 n0 c0 A1 n1 c1 A2 n2 c2 ⟨a, (S.ws.set i ((S.ws.getD i []).take m)).set (i + 1) b, S.rs.set i p, S.os⟩ w ∧ rotG hd i (S.ws.getD i []) m p b a = rotX hd i S ∧ m ≤ (S.ws.getD i []).length ∧ (1 ≤ p.length ∧ p.length ≤ 20) ∧ b.length + m ≤ 800 ∧ -5000 ≤ a ∧ a + m ≤ 5000
theorem set_same {l : List (List Int)} {j : Nat} (h : j < l.length) : l.set j (l.getD j []) = l := by
  rw [List.getD_eq_getElem?_getD, List.getElem?_eq_getElem h]; simp
theorem RoAt.start (h : NfAt w0 lo g s hd A0 n0 c0 A1 n1 c1 A2 n2 c2 S w) (ok : OkN n1 k S) (hk : k ≤ 4000) (hi : i < n1) : RoAt w0 lo g s hd A0 n0 c0 A1 n1 c1 A2 n2 c2 S i (S.ws.getD i []).length (S.rs.getD i []) (S.ws.getD (i + 1) []) S.a w := by
  have h1 := ok.nw; have h2 := ok.nr; have h3 := ok.a; have h4 := ok.sum
  have s1 := sumW_at S.ws i; have s2 := sumW_at S.ws (i + 1)
  refine ⟨?_, rfl, Nat.le_refl _, ok.rep _ (getD_mem (by omega)), by omega, by omega, by omega⟩
  rw [List.take_length, set_same (by omega), set_same (by omega), set_same (by omega)]
  exact h
theorem RoAt.out (h : RoAt w0 lo g s hd A0 n0 c0 A1 n1 c1 A2 n2 c2 S i m p b a w) (ho : rotG hd i (S.ws.getD i []) m p b a = ((S.ws.getD i []).take m, p, b, a)) : NfAt w0 lo g s hd A0 n0 c0 A1 n1 c1 A2 n2 c2 (rotN hd i S) w := by
  obtain ⟨h1, h2, _⟩ := h
  rw [rotN, ← h2, ho]; exact h1
end
theorem rot_or {y z : Int} {P : Prop} (h : ¬ (y = z ∧ ¬ P)) : y ≠ z ∨ P := by
  by_cases h2 : y = z
  · exact .inr (Classical.byContradiction fun h3 => h ⟨h2, h3⟩)
  · exact .inl h2
theorem rotG_hit {hd i : Int} {A p b : List Int} {m : Nat} {a y z : Int} (hy : A.getD m 0 = y) (hz : p.getD (p.length - 1) 0 = z) (e : y = z) (hu : ¬ (hd = i ∧ a = m)) : rotG hd i A (m + 1) p b a = rotG hd i A m (y :: p.take (p.length - 1)) (y :: b) (if hd = i + 1 then a + 1 else a) := by
  rw [rotG, hy, hz, if_pos ⟨e, hu⟩]
theorem rotG_stop {hd i : Int} {A p b : List Int} {m : Nat} {a y z : Int} (hy : A.getD m 0 = y) (hz : p.getD (p.length - 1) 0 = z) (h : y ≠ z ∨ (hd = i ∧ a = m)) : rotG hd i A (m + 1) p b a = (A.take (m + 1), p, b, a) := by
  rw [rotG, hy, hz, if_neg]
  rintro ⟨h1, h2⟩
  rcases h with h | h
  · exact h h1
  · exact h2 h
theorem Own.lit1f {w : World} {B : Nat} {e : TypeId} {v : Value} (hB : B ≤ w.heap.size) : Own (w.alloc (.cells #[v] e)) B e 1 (some ⟨w.heap.size, 0, none⟩) 1 1 [v] :=
  ⟨by simp, .inr ⟨w.heap.size, 1, #[v], rfl, hB, heap_alloc_new w _, by omega, by simp [maxLen], by simp, by simp⟩⟩
theorem joined2_c (g : Nat) (t : TypeId) (P : Option Addr) (n c : Nat) (xs : List Int) (Q : Option Addr) (m d : Nat) (ys : List Int) (w : World) (hg : Blk w g t #[.slice P n c, .slice Q m d]) (hx : RdI w P n xs) (hy : RdI w Q m ys) (hn : n ≤ 10000) (hm : m ≤ 10000) :
    Calls Try.prog 53 #[.slice (some ⟨g, 0, none⟩) 2 2] w fun e w' => ∃ A k, e = .returned (.slice A (n + m) k) ∧ n + m ≤ k ∧ Wr w' w.heap.size w'.heap.size A (n + m) ((xs ++ ys).map i64) ∧ Below w.heap.size w w' := by
  refine (joined_c _ 2 2 _ w (rdV2 hg hx hy) (by omega) (by simp [sumV]; omega)).mono ?_
  rintro e w1 ⟨A, k, rfl, hw, hc, hb⟩
  simp only [sumV, Nat.add_zero, Nat.mul_one, List.flatMap_cons, List.flatMap_nil, List.append_nil] at hw hc ⊢
  exact ⟨A, k, rfl, hc, by rw [List.map_append]; exact hw, hb⟩

section
variable {w0 w w' : World} {lo g : Nat} {s hd a o : Int} {A0 : Option Addr} {n0 c0 : Nat} {A1 : Option Addr} {n1 c1 : Nat} {A2 : Option Addr} {n2 c2 : Nat} {S : NF} {i k : Nat} {b : List Int}
/-- what is left of the wall, the head's place, the offset -/
def AbAt (w0 : World) (lo g : Nat) (s hd : Int) (A0 : Option Addr) (n0 c0 : Nat) (A1 : Option Addr) (n1 c1 : Nat) (A2 : Option Addr) (n2 c2 : Nat) (S : NF) (i : Nat) (b : List Int) (a o : Int) (w : World) : Prop :=
  NfAt w0 lo g s hd A0 n0 c0 A1 n1 c1 A2 n2 c2 ⟨a, S.ws.set (i + 1) b, S.rs, S.os.set i o⟩ w ∧ (∃ f, absG hd (i + 1 : Nat) (S.rs.getD i []) f b a o = absX hd i S ∧ b.length ≤ f) ∧ b.length ≤ 400 ∧ (-6000 ≤ a ∧ a ≤ 6000) ∧ -6000 ≤ o ∧ o + b.length ≤ 6000
theorem AbAt.start (h : NfAt w0 lo g s hd A0 n0 c0 A1 n1 c1 A2 n2 c2 S w) (ok : OkN n1 k S) (hk : k ≤ 4000) (hi : i < n1) : AbAt w0 lo g s hd A0 n0 c0 A1 n1 c1 A2 n2 c2 S i (S.ws.getD (i + 1) []) S.a (S.os.getD i 0) w := by
  have h1 := ok.nw; have h2 := ok.no; have h3 := ok.a; have h4 := ok.sum
  have s2 := sumW_at S.ws (i + 1)
  have ho := ok.o _ (getD_mem (d := 0) (show i < S.os.length by omega))
  refine ⟨?_, ⟨_, rfl, Nat.le_refl _⟩, by omega, by omega, by omega, by omega⟩
  rw [set_same (by omega)]
  have e : S.os.set i (S.os.getD i 0) = S.os := by rw [List.getD_eq_getElem?_getD, List.getElem?_eq_getElem (by omega)]; simp
  rw [e]; exact h
theorem AbAt.out (h : AbAt w0 lo g s hd A0 n0 c0 A1 n1 c1 A2 n2 c2 S i b a o w) (ho : ∀ f, absG hd (i + 1 : Nat) (S.rs.getD i []) f b a o = (b, a, o)) : NfAt w0 lo g s hd A0 n0 c0 A1 n1 c1 A2 n2 c2 (absN hd i S) w := by
  obtain ⟨h1, ⟨f, h2, _⟩, _⟩ := h
  rw [absN, ← h2, ho]; exact h1
end
theorem absG_stop {hd j : Int} {p b : List Int} {a o : Int} (h : ¬ (p <+: b) ∨ (hd = j ∧ a < p.length)) (f : Nat) : absG hd j p f b a o = (b, a, o) := by
  cases f with
  | zero => rfl
  | succ f =>
    rw [absG, if_neg]
    rintro ⟨h1, h2⟩
    rcases h with h | h
    · exact h h1
    · exact h2 h
theorem absG_hit {hd j : Int} {p b : List Int} {a o : Int} (h1 : p <+: b) (h2 : ¬ (hd = j ∧ a < p.length)) (f : Nat) : absG hd j p (f + 1) b a o = absG hd j p f (b.drop p.length) (if hd = j then a - p.length else a) (o + 1) := by
  rw [absG, if_pos ⟨h1, h2⟩]
end Go.Proofs.Ytmmgejnhfpfmnaa
