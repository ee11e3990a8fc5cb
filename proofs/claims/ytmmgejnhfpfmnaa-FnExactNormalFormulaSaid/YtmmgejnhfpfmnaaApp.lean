/-
  append onto a slice of the call's own, its value written out: one law for a region's list of operations.
-/
import Derived.Test.YtmmgejnhfpfmnaaBase
import Derived.Maps.AppendAt
import Derived.OwnWalk
import Derived.Deep.Upon
namespace Go.Proofs.Ytmmgejnhfpfmnaa
open Go.RowKit

/-- a slice of the call's own: nil, or the head of a row in a block from B on, whose cells are known -/
def Own (w : World) (B : Nat) (e : TypeId) (size : Nat) (A : Option Addr) (n c : Nat) (vs : List Value) : Prop := w.ownsRow B e size (.slice A n c) n vs

section
variable {w w' : World} {B : Nat} {e : TypeId} {size n c : Nat} {A : Option Addr} {vs : List Value}
theorem Own.nil : Own w B e size none 0 0 [] := ⟨by simp, .inl ⟨rfl, rfl⟩⟩
theorem Own.len (h : Own w B e size A n c vs) : vs.length = n * size := h.1
theorem Own.block (h : Own w B e size A n c vs) {ad : Addr} (ha : A = some ad) : B ≤ ad.block ∧ ad.block < w.heap.size ∧ ad = ⟨ad.block, 0, none⟩ ∧ ∃ cur, w.heap[ad.block]? = some (.cells cur e (0, 0)) := by
  rcases h.2 with ⟨hv, _⟩ | ⟨g, cap, cur, hv, hB, hh, _⟩
  · injection hv with hv; rw [ha] at hv; cases hv
  · injection hv with hv; rw [ha] at hv; injection hv with hv; subst hv
    exact ⟨hB, Blk.lt hh, rfl, cur, hh⟩
theorem Own.ne_ (h : Own w B e size A n c vs) {g : Nat} {t : TypeId} {cs : Array Value} (hg : Blk w g t cs) (hne : t ≠ e) (ad : Addr) (ha : A = some ad) : ad.block ≠ g := by
  rintro rfl
  obtain ⟨_, _, _, cur, hc⟩ := h.block ha
  unfold Blk at hg
  rw [hg] at hc
  injection hc with hc
  injection hc with _ ht
  exact hne ht
theorem Own.move (h : Own w B e size A n c vs) (hk : ∀ ad, A = some ad → w'.heap[ad.block]? = w.heap[ad.block]?) : Own w' B e size A n c vs := by
  refine ⟨h.1, ?_⟩
  rcases h.2 with ⟨hv, hn⟩ | ⟨g, cap, cur, hv, hB, hh, h1, h2, h3, h4⟩
  · exact .inl ⟨hv, hn⟩
  · injection hv with ha hn hc
    subst hc
    exact .inr ⟨g, c, cur, by rw [ha], hB, (hk _ ha).trans hh, h1, h2, h3, h4⟩
theorem Own.keep (h : Own w B e size A n c vs) (hb : Below w.heap.size w w') : Own w' B e size A n c vs := h.move fun _ ha => hb.block _ (h.block ha).2.1
theorem Own.alloc (h : Own w B e size A n c vs) (o : Obj) : Own (w.alloc o) B e size A n c vs := h.keep (below_size.alloc (Nat.le_refl _) o)
theorem Own.drew (h : Own w B e size A n c vs) : Own w.drew B e size A n c vs := h
theorem Own.far (h : Own w B e size A n c vs) {p : Addr} (hp : ∀ ad, A = some ad → ad.block ≠ p.block) (u : Value) : Own (w.setCell p u) B e size A n c vs :=
  h.move fun ad ha => Below.heap_setCell w p u ad.block (hp ad ha)
theorem Own.wr (h : Own w B e 1 A n c vs) : Wr w B w.heap.size A n vs := by
  refine ⟨by rw [h.1, Nat.mul_one], fun hn => ?_⟩
  rcases h.2 with ⟨hv, h0⟩ | ⟨g, cap, cur, hv, hB, hh, h1, h2, h3, h4⟩
  · omega
  · injection hv with ha _ hc
    subst ha
    have hb : Blk w g e cur := hh
    refine ⟨_, rfl, hB, hb.lt, hb.lt, fun j v hj => ?_⟩
    rw [head_add]
    refine ⟨?_, hb.frozen j⟩
    rw [hb.cell, ← hj, ← h4, List.getElem?_take, Nat.mul_one]
    split
    · simp
    · rename_i hlt
      rw [← h4, List.getElem?_take, Nat.mul_one, if_neg hlt] at hj; cases hj
end

theorem Wr.take {w : World} {lo hi n k : Nat} {A : Option Addr} {vs : List Value} (h : Wr w lo hi A n vs) (hk : k ≤ n) : Wr w lo hi A k (vs.take k) := by
  refine ⟨by rw [List.length_take, h.1]; omega, fun hn => ?_⟩
  obtain ⟨ad, e, h1, h2, h3, hc⟩ := h.2 (by omega)
  refine ⟨ad, e, h1, h2, h3, fun j v hj => hc j v ?_⟩
  rw [List.getElem?_take] at hj
  split at hj
  · exact hj
  · cases hj
theorem Own.lit {w : World} {B : Nat} {e : TypeId} (hB : B ≤ w.heap.size) : Own (w.alloc (.cells #[] e)) B e 1 (some ⟨w.heap.size, 0, none⟩) 0 0 [] :=
  ⟨by simp, .inr ⟨w.heap.size, 0, #[], rfl, hB, heap_alloc_new w _, by omega, by simp [maxLen], by simp, by simp⟩⟩
theorem Own.made {w : World} {B : Nat} {e : TypeId} (z : Value) (c : Nat) (hB : B ≤ w.heap.size) (hc : c ≤ 10000000000000) : Own (w.alloc (.cells (Array.replicate c z) e)) B e 1 (some ⟨w.heap.size, 0, none⟩) 0 c [] :=
  ⟨by simp, .inr ⟨w.heap.size, c, Array.replicate c z, rfl, hB, heap_alloc_new w _, by omega, by simp [maxLen]; omega, by simp, by simp⟩⟩
theorem Own.keepR {w w' : World} {B : Nat} {e : TypeId} {size n c lo hi : Nat} {A : Option Addr} {vs : List Value} (h : Own w B e size A n c vs) (hk : KeepR lo hi w w') (hx : hi ≤ B) : Own w' B e size A n c vs :=
  h.move fun _ ha => hk.block _ (h.block ha).2.1 (.inr (Nat.le_trans hx (h.block ha).1))

theorem Own.wrK {w : World} {B : Nat} {e : TypeId} {k n c : Nat} {A : Option Addr} {vs : List Value} (h : Own w B e k A n c vs) : Wr w B w.heap.size A (n * k) vs := by
  refine ⟨h.1, fun hn => ?_⟩
  rcases h.2 with ⟨hv, h0⟩ | ⟨g, cap, cur, hv, hB, hh, h1, h2, h3, h4⟩
  · rw [h0] at hn; omega
  · injection hv with ha _ hc
    subst ha
    have hb : Blk w g e cur := hh
    refine ⟨_, rfl, hB, hb.lt, hb.lt, fun j v hj => ?_⟩
    rw [head_add]
    refine ⟨?_, hb.frozen j⟩
    rw [hb.cell, ← hj, ← h4, List.getElem?_take]
    split
    · simp
    · rename_i hlt
      rw [← h4, List.getElem?_take, if_neg hlt] at hj; cases hj
theorem Own.litK {w : World} {B k : Nat} {e : TypeId} (hB : B ≤ w.heap.size) : Own (w.alloc (.cells #[] e)) B e k (some ⟨w.heap.size, 0, none⟩) 0 0 [] :=
  ⟨by simp, .inr ⟨w.heap.size, 0, #[], rfl, hB, heap_alloc_new w _, by omega, by simp [maxLen], by simp, by simp⟩⟩
/-- a call that hands back a slice of its own -/
def IntsOut (xs : List Int) (w : World) (e : Ending) (w' : World) : Prop := ∃ A c, e = .returned (.slice A xs.length c) ∧ Wr w' w.heap.size w'.heap.size A xs.length (xs.map i64) ∧ Below w.heap.size w w'
/-- .. and a code -/
def IntsOut2 (R : List Int × Int) (w : World) (e : Ending) (w' : World) : Prop := ∃ A n c, e = .returned (.tuple #[.slice A n c, .int .i64 R.2]) ∧ Wr w' w.heap.size w'.heap.size A n (R.1.map i64) ∧ n ≤ 1000000 ∧ Below w.heap.size w w'

section
variable {P : Program}
theorem wp_app {ops : Array Oper} {rest : List Oper} {o : Oper} {a : Act} {w : World} {Q : Exit → Act → World → Prop} (hgd : o.guard = none) (s x : Operand) (t e : TypeId) (z : Value) (size bytes : Nat)
    (ho : o.op = .call { callee := .builtin .append, args := #[s, x], argTypes := #[t, t] })
    (ht : P.underlying t = some (.slice e)) (hinfo : (P.info? e).map (fun i => (i.zero, i.size, i.bytes)) = some (some z, size, bytes)) (hzs : z.cells.size = size) (hsz : 0 < size)
    (B : Nat) (A : Option Addr) (n c : Nat) (vs : List Value) (hs : a.eval s = .slice A n c) (hown : Own w B e size A n c vs)
    (ad : Addr) (m c' : Nat) (news : List Value) (hx : a.eval x = .slice (some ad) m c') (hm : 0 < m) (hl : news.length = m * size) (hnews : ∀ j u, news[j]? = some u → w.cell? (ad.add j) = some u) (h1 : ∀ u ∈ news, u.oneCell' = true)
    (hlen : n + m ≤ 10000000000000) (hby : (n + m) * bytes ≤ 140737488355328) (hB : B ≤ w.heap.size)
    (h : ∀ g' cap w', Own w' B e size (some ⟨g', 0, none⟩) (n + m) cap (vs ++ news) → Below B w w' → (∀ b, b < w.heap.size → (∀ ad', A = some ad' → ad'.block ≠ b) → w'.heap[b]? = w.heap[b]?) → (A = some ⟨g', 0, none⟩ ∨ g' = w.heap.size) → w.heap.size ≤ w'.heap.size →
      wpList P ops Q rest (a.put o.dst (.slice (some ⟨g', 0, none⟩) (n + m) cap)) w') : wpList P ops Q (o :: rest) a w := by
  obtain ⟨i, hi0, hi1⟩ := Option.map_eq_some_iff.1 hinfo
  simp only [Prod.mk.injEq] at hi1
  obtain ⟨e1, e2, e3⟩ := hi1
  have hbytes := hby
  obtain ⟨v', w', hrun, h2, h3, _, h5⟩ := run_append_own_at (P := P) w B t o.type e i z size bytes ht hi0 e1 e2 e3 hzs hsz (.slice A n c) n vs hown ad m c' news hl hnews h1 (by simp only [maxLen]; omega) hbytes hB
  refine wpList_plain hgd fun K hK => ?_
  unfold Oper.wp execOp
  simp only [ho, resolve, invoke, builtin, Sem.run_bind, Sem.run_pure, Result.andThen_ok, List.map_toArray, List.map_cons, List.map_nil, hs, hx, hrun]
  refine hK _ _ ?_
  obtain ⟨g', cap, hv⟩ : ∃ g' cap, v' = .slice (some ⟨g', 0, none⟩) (n + m) cap := by
    rcases h2.2 with ⟨_, h0⟩ | ⟨g', cap, _, hv, _⟩
    · omega
    · exact ⟨g', cap, hv⟩
  subst hv
  have hA : A = some ⟨g', 0, none⟩ ∨ g' = w.heap.size := by
    rcases h5 with h5 | h5
    · cases A with
      | none => simp [Value.ownBlock] at h5
      | some ad' =>
        simp [Value.ownBlock] at h5
        have := (hown.block rfl).2.2.1
        rw [this, ← h5]; exact .inl rfl
    · simp [Value.ownBlock] at h5; exact .inr h5
  have hown' : ∀ ad', A = some ad' → (Value.slice A n c).ownBlock = some ad'.block := fun ad' e => by rw [e]; rfl
  refine h g' cap w' h2 ?_ ?_ hA h3.size
  · refine ⟨h3.os, h3.tape, h3.output, h3.size, fun k hk => h3.block k (by omega) ?_⟩
    cases A with
    | none => simp [Value.ownBlock]
    | some ad' =>
      have := (hown.block rfl).1
      simp [Value.ownBlock]; omega
  · intro b hb hne
    refine h3.block b hb ?_
    cases A with
    | none => simp [Value.ownBlock]
    | some ad' =>
      have := hne ad' rfl
      simp [Value.ownBlock]; omega

/-- one element of one cell, out of a block that was just laid -/
theorem wp_app1 {ops : Array Oper} {rest : List Oper} {o : Oper} {a : Act} {w : World} {Q : Exit → Act → World → Prop} (hgd : o.guard = none) (s x : Operand) (t e : TypeId) (z : Value) (bytes : Nat)
    (ho : o.op = .call { callee := .builtin .append, args := #[s, x], argTypes := #[t, t] })
    (ht : P.underlying t = some (.slice e)) (hinfo : (P.info? e).map (fun i => (i.zero, i.size, i.bytes)) = some (some z, 1, bytes)) (hzs : z.cells.size = 1)
    (B : Nat) (A : Option Addr) (n c : Nat) (vs : List Value) (hs : a.eval s = .slice A n c) (hown : Own w B e 1 A n c vs)
    (g : Nat) (u : Value) (hx : a.eval x = .slice (some ⟨g, 0, none⟩) 1 1) (hu : w.cell? ⟨g, 0, none⟩ = some u) (h1 : u.oneCell' = true)
    (hlen : n + 1 ≤ 10000000000000) (hby : (n + 1) * bytes ≤ 140737488355328) (hB : B ≤ w.heap.size)
    (h : ∀ g' cap w', Own w' B e 1 (some ⟨g', 0, none⟩) (n + 1) cap (vs ++ [u]) → Below B w w' → (∀ b, b < w.heap.size → (∀ ad', A = some ad' → ad'.block ≠ b) → w'.heap[b]? = w.heap[b]?) → (A = some ⟨g', 0, none⟩ ∨ g' = w.heap.size) → w.heap.size ≤ w'.heap.size →
      wpList P ops Q rest (a.put o.dst (.slice (some ⟨g', 0, none⟩) (n + 1) cap)) w') : wpList P ops Q (o :: rest) a w :=
  wp_app hgd s x t e z 1 bytes ho ht hinfo hzs (by omega) B A n c vs hs hown ⟨g, 0, none⟩ 1 1 [u] hx (by omega) (by simp)
    (fun j v hj => by cases j with | zero => simp at hj; subst hj; exact hu | succ j => simp at hj) (by simpa using h1) hlen hby hB h
end
/-- append of nothing -/
theorem wp_app0 {P : Program} {ops : Array Oper} {rest : List Oper} {o : Oper} {a : Act} {w : World} {Q : Exit → Act → World → Prop} (hgd : o.guard = none) (s x : Operand) (t e : TypeId) (z : Value) (size bytes : Nat)
    (ho : o.op = .call { callee := .builtin .append, args := #[s, x], argTypes := #[t, t] })
    (ht : P.underlying t = some (.slice e)) (hinfo : (P.info? e).map (fun i => (i.zero, i.size, i.bytes)) = some (some z, size, bytes))
    (A : Option Addr) (n c : Nat) (hs : a.eval s = .slice A n c) (hle : n ≤ c) (B : Option Addr) (c' : Nat) (hx : a.eval x = .slice B 0 c')
    (h : wpList P ops Q rest (a.put o.dst (.slice A n c)) w) : wpList P ops Q (o :: rest) a w := by
  obtain ⟨i, hi0, hi1⟩ := Option.map_eq_some_iff.1 hinfo
  have hsrc : Src P i.size t (.slice B 0 c') 0 [] w := by
    cases B with
    | none => exact Src.ofNil w ht c'
    | some ad => exact Src.ofSlice w ht ad 0 c' [] (by simp) (fun j u hj => by simp at hj) (fun u hu => by cases hu)
  have hrun := run_append_nothing (P := P) w t t o.type e i ht hi0 A n c hle (.slice B 0 c') hsrc
  refine wpList_plain hgd fun K hK => ?_
  unfold Oper.wp execOp
  simp only [ho, resolve, invoke, builtin, Sem.run_bind, Sem.run_pure, Result.andThen_ok, List.map_toArray, List.map_cons, List.map_nil, hs, hx, hrun]
  exact hK _ _ h

theorem Own.cap {w : World} {B : Nat} {e : TypeId} {size n c : Nat} {A : Option Addr} {vs : List Value} (h : Own w B e size A n c vs) : n ≤ c := by
  rcases h.2 with ⟨hv, h0⟩ | ⟨g, cap, cur, hv, _, _, h1, _⟩
  · omega
  · injection hv with _ _ hc; subst hc; exact h1
end Go.Proofs.Ytmmgejnhfpfmnaa
