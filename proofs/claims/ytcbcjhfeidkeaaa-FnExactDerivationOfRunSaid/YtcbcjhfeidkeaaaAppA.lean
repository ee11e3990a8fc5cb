/-
  append of a slice of numbers that may be empty; several slices of the call's own that grow side by side.
-/
import Derived.Test.YtcbcjhfeidkeaaaC05r
import Derived.Test.YtcbcjhfeidkeaaaOwnS
import Derived.Test.YtcbcjhfeidkeaaaSegII
namespace Go.Proofs.Ytcbcjhfeidkeaaa
open Go.RowKit

/-- append of a slice of numbers to a slice of the call's own -/
theorem wp_appA {ops : Array Oper} {rest : List Oper} {o : Oper} {a : Act} {w : World} {Q : Exit → Act → World → Prop} (hgd : o.guard = none) (s x : Operand)
    (ho : o.op = .call { callee := .builtin .append, args := #[s, x], argTypes := #[25, 25] })
    (B : Nat) (A : Option Addr) (n c : Nat) (vs : List Value) (hs : a.eval s = .slice A n c) (hown : Own w B 2 1 A n c vs)
    (X : Option Addr) (m c' : Nat) (xs : List Int) (hx : a.eval x = .slice X m c') (hX : RdI w X m xs) (hlen : n + m ≤ 10000000000) (hB : B ≤ w.heap.size)
    (h : ∀ A' cap w', Own w' B 2 1 A' (n + m) cap (vs ++ xs.map i64) → Below B w w' → (∀ b, b < w.heap.size → (∀ ad', A = some ad' → ad'.block ≠ b) → w'.heap[b]? = w.heap[b]?) → (A' = A ∨ A' = some ⟨w.heap.size, 0, none⟩) → w.heap.size ≤ w'.heap.size →
      wpList Try.prog ops Q rest (a.put o.dst (.slice A' (n + m) cap)) w') : wpList Try.prog ops Q (o :: rest) a w := by
  by_cases h0 : 0 < m
  · obtain ⟨hl, hc⟩ := hX
    obtain ⟨ad, rfl, hab, hcs⟩ := hc h0
    refine wp_app hgd s x 25 2 (.int .i64 0) 1 8 ho Try.underlying25 info_i64 rfl (by omega) B A n c vs hs hown ad m c' (xs.map i64) hx h0 (by rw [hl, Nat.mul_one]) hcs (by intro u hu; obtain ⟨y, _, rfl⟩ := List.mem_map.1 hu; rfl) (by omega) (by omega) hB ?_
    intro g' cap w2 own2 hb2 hk2 hg2 hz2
    exact h _ cap w2 own2 hb2 hk2 (hg2.elim (fun e => .inl e.symm) (fun e => .inr (by rw [e]))) hz2
  · obtain rfl : m = 0 := by omega
    have hws : xs = [] := List.length_eq_zero_iff.1 (by have := hX.1; simpa using this)
    subst hws
    refine wp_app0 hgd s x 25 2 (.int .i64 0) 1 8 ho Try.underlying25 info_i64 A n c hs hown.cap X c' hx ?_
    exact h A c w (by simpa using hown) ⟨rfl, rfl, rfl, Nat.le_refl _, fun _ _ => rfl⟩ (fun _ _ _ => rfl) (.inl rfl) (Nat.le_refl _)

/-- the blocks of a slice of the call's own and of its rows -/
def blks (A : Option Addr) (ss : List Seg) (b : Nat) : Prop := (∃ ad, A = some ad ∧ ad.block = b) ∨ ∃ s ∈ ss, ∃ a, s.A = some a ∧ 0 < s.n ∧ a.block = b
def Apt (X Y : Nat → Prop) : Prop := ∀ b, X b → Y b → False
section
variable {w w' : World} {B : Nat} {e : TypeId} {size n c : Nat} {A : Option Addr} {vs : List Value} {ss : List Seg}
theorem Apt.symm {X Y : Nat → Prop} (h : Apt X Y) : Apt Y X := fun b hy hx => h b hx hy
theorem Apt.grow {X X' Y : Nat → Prop} {l : Nat} (h : Apt X Y) (hX : ∀ b, X' b → X b ∨ l ≤ b) (hY : ∀ b, Y b → b < l) : Apt X' Y := fun b hx hy => by
  rcases hX b hx with h1 | h1
  · exact h b h1 hy
  · have := hY b hy; omega
theorem OwnS.lt (h : OwnS w B e size A n c vs ss) {b : Nat} (hb : blks A ss b) : B ≤ b ∧ b < w.heap.size := by
  rcases hb with ⟨ad, ha, rfl⟩ | ⟨s, hs, a, ha, hn, rfl⟩
  · exact ⟨(h.own.block ha).1, (h.own.block ha).2.1⟩
  · obtain ⟨a', e', h1, _, h3, _⟩ := (h.wrs.each s hs).2 hn
    rw [ha] at e'; injection e' with e'; subst e'; exact ⟨h1, h3⟩
theorem OwnS.moveF (h : OwnS w B e size A n c vs ss) (hk : ∀ b, blks A ss b → w'.heap[b]? = w.heap[b]?) (hs : w.heap.size ≤ w'.heap.size) : OwnS w' B e size A n c vs ss :=
  ⟨h.own.move fun ad ha => hk _ (.inl ⟨ad, ha, rfl⟩), ⟨fun s hs' => (h.wrs.each s hs').move (fun ad hn e => hk _ (.inr ⟨s, hs', ad, e, hn, rfl⟩)) hs hs, h.wrs.apart⟩, h.ne⟩
theorem blks_nil {b : Nat} (hb : blks none [] b) : False := by
  rcases hb with ⟨_, h, _⟩ | ⟨_, h, _⟩
  · cases h
  · cases h
theorem blks_own {A A' : Option Addr} {l b : Nat} (hA : A' = A ∨ A' = some ⟨l, 0, none⟩) (hb : blks A' ss b) : blks A ss b ∨ l ≤ b := by
  rcases hb with ⟨ad, ha, rfl⟩ | h
  · rcases hA with hA | hA
    · exact .inl (.inl ⟨ad, by rw [← hA]; exact ha, rfl⟩)
    · rw [hA] at ha; injection ha with ha; subst ha; exact .inr (Nat.le_refl _)
  · exact .inl (.inr h)
theorem blks_push {A A' : Option Addr} {s : Seg} {l b : Nat} (hA : A' = A ∨ ∃ g, A' = some ⟨g, 0, none⟩ ∧ l ≤ g) (hs : ∀ a, s.A = some a → 0 < s.n → l ≤ a.block) (hb : blks A' (ss ++ [s]) b) : blks A ss b ∨ l ≤ b := by
  rcases hb with ⟨ad, ha, rfl⟩ | ⟨t, ht, a, ha, hn, rfl⟩
  · rcases hA with hA | ⟨g, hA, hg⟩
    · exact .inl (.inl ⟨ad, by rw [← hA]; exact ha, rfl⟩)
    · rw [hA] at ha; injection ha with ha; subst ha; exact .inr hg
  · rcases List.mem_append.1 ht with ht | ht
    · exact .inl (.inr ⟨t, ht, a, ha, hn, rfl⟩)
    · rw [List.mem_singleton] at ht; subst ht; exact .inr (hs a ha hn)
/-- all rows of two, together -/
theorem OwnS.both {A' : Option Addr} {e' : TypeId} {size' n' c' : Nat} {vs' : List Value} {ss' : List Seg} (h : OwnS w B e size A n c vs ss) (h' : OwnS w B e' size' A' n' c' vs' ss') (ha : Apt (blks A ss) (blks A' ss')) :
    WrS w B w.heap.size ((⟨A, n * size, vs⟩ :: ss) ++ (⟨A', n' * size', vs'⟩ :: ss')) := by
  refine ⟨fun s hs => (List.mem_append.1 hs).elim (fun h1 => h.wrS.each s h1) (fun h1 => h'.wrS.each s h1), List.pairwise_append.2 ⟨h.wrS.apart, h'.wrS.apart, ?_⟩⟩
  have key : ∀ (A : Option Addr) (ss : List Seg) (k : Nat) (vs : List Value) (s : Seg), s ∈ (⟨A, k, vs⟩ :: ss : List Seg) → ∀ a, s.A = some a → 0 < s.n → blks A ss a.block := fun A ss k vs s hs a e hn => by
    rcases List.mem_cons.1 hs with rfl | hs
    · exact .inl ⟨a, e, rfl⟩
    · exact .inr ⟨s, hs, a, e, hn, rfl⟩
  intro s hs t ht a b e1 e2 hn hm hab
  exact ha _ (key _ _ _ _ s hs a e1 hn) (by rw [hab]; exact key _ _ _ _ t ht b e2 hm)
end
end Go.Proofs.Ytcbcjhfeidkeaaa
