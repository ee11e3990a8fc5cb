/-
  Contracts of chapter 27 (RepeatsIn): the program's side.
-/
import Derived.Test.YtmmgejnhfpfmnaaC27s
namespace Go.Proofs.Ytmmgejnhfpfmnaa
open Go.RowKit

theorem last_c (s hd a : Int) (A0 : Option Addr) (n0 c0 : Nat) (A1 : Option Addr) (n1 c1 : Nat) (A2 : Option Addr) (n2 c2 : Nat) (w : World) (hn : n0 ≤ 1000000000) :
    Calls Try.prog 133 #[.agg #[.int .i64 s, .int .i64 hd, .int .i64 a, .slice A0 n0 c0, .slice A1 n1 c1, .slice A2 n2 c2]] w fun e w' => e = .returned (.int .i64 ((n0 : Int) - 1)) ∧ Below w.heap.size w w' := by
  have v1 : IntKind.i64.wrap ((n0 : Int) - 1) = (n0 : Int) - 1 := IntWalk.i64_in _ (by omega)
  have b0 : (w.alloc (.cells #[i64 s, i64 hd, i64 a, .slice A0 n0 c0, .slice A1 n1 c1, .slice A2 n2 c2] 29)).cell? ⟨w.heap.size, 3, none⟩ = some (.slice A0 n0 c0) := (Blk.new w _ _).cell 3
  go_enter Try.func133, Try.ntmps133
  go_wp2_with (go_at_call 122; refine (sizeII_c _ _ _ _ (by omega)).mono ?_; rintro e w' ⟨rfl, rfl⟩)
  go_ret
  exact ⟨rfl, below_size.alloc (Nat.le_refl _) _⟩
section
variable {ps : List (List Int)} {k : Nat} {x : List Int}
theorem oneP_at (h : ps[k]? = some x) : oneP (ps.drop k) = x ++ oneP (ps.drop (k + 1)) := by rw [drop_at h, oneP]
theorem dblP_t (h : ps[k]? = some x) : dblP true (ps.drop k) = x ++ dblP false (ps.drop (k + 1)) := by rw [drop_at h, dblP]
theorem dblP_f (h : ps[k]? = some x) : dblP false (ps.drop k) = (x ++ x) ++ dblP true (ps.drop (k + 1)) := by rw [drop_at h, dblP]
theorem wallsP_t (h : ps[k]? = some x) : wallsP true (ps.drop k) = x :: wallsP false (ps.drop (k + 1)) := by rw [drop_at h, wallsP]
theorem wallsP_f (h : ps[k]? = some x) : wallsP false (ps.drop k) = wallsP true (ps.drop (k + 1)) := by rw [drop_at h, wallsP]
theorem repsP_t (h : ps[k]? = some x) : repsP true (ps.drop k) = repsP false (ps.drop (k + 1)) := by rw [drop_at h, repsP]
theorem repsP_f (h : ps[k]? = some x) : repsP false (ps.drop k) = x :: repsP true (ps.drop (k + 1)) := by rw [drop_at h, repsP]
/-- how far 'bounced' has come: b: the next part is a wall -/
structure BnAt (ps : List (List Int)) (k : Nat) (b : Bool) (xs ys : List Int) (ws rs : List (List Int)) : Prop where
  one : oneP ps = xs ++ oneP (ps.drop k)
  dbl : dblP true ps = ys ++ dblP b (ps.drop k)
  wl : wallsP true ps = ws ++ wallsP b (ps.drop k)
  rp : repsP true ps = rs ++ repsP b (ps.drop k)
variable {xs ys : List Int} {ws rs : List (List Int)}
theorem BnAt.start : BnAt ps 0 true [] [] [] [] := ⟨rfl, rfl, rfl, rfl⟩
theorem BnAt.wall (h : BnAt ps k true xs ys ws rs) (hx : ps[k]? = some x) : BnAt ps (k + 1) false (xs ++ x) (ys ++ x) (ws ++ [x]) rs :=
  ⟨by rw [h.one, oneP_at hx, List.append_assoc], by rw [h.dbl, dblP_t hx, List.append_assoc], by rw [h.wl, wallsP_t hx, List.append_assoc]; rfl, by rw [h.rp, repsP_t hx]⟩
theorem BnAt.rep (h : BnAt ps k false xs ys ws rs) (hx : ps[k]? = some x) : BnAt ps (k + 1) true (xs ++ x) (ys ++ x ++ x) ws (rs ++ [x]) :=
  ⟨by rw [h.one, oneP_at hx, List.append_assoc], by rw [h.dbl, dblP_f hx]; simp only [List.append_assoc], by rw [h.wl, wallsP_f hx], by rw [h.rp, repsP_f hx, List.append_assoc]; rfl⟩
theorem BnAt.done {b : Bool} (h : BnAt ps k b xs ys ws rs) (hk : ps.length ≤ k) : oneP ps = xs ∧ dblP true ps = ys ∧ wallsP true ps = ws ∧ repsP true ps = rs := by
  have hd : ps.drop k = [] := List.drop_eq_nil_of_le hk
  refine ⟨by rw [h.one, hd, oneP, List.append_nil], by rw [h.dbl, hd]; cases b <;> simp [dblP], by rw [h.wl, hd]; cases b <;> simp [wallsP], by rw [h.rp, hd]; cases b <;> simp [repsP]⟩
end
/-- once, twice, walls, repeaters: four slices of the call's own that grow side by side -/
structure Four (w : World) (B L : Nat) (O : Option Addr) (n c : Nat) (xs : List Int) (T : Option Addr) (n' c' : Nat) (ys : List Int) (A0 : Option Addr) (m0 d0 : Nat) (its0 : List It) (A1 : Option Addr) (m1 d1 : Nat) (its1 : List It) : Prop where
  o : OwnS w B 2 1 O n c (xs.map i64) []
  t : OwnS w B 2 1 T n' c' (ys.map i64) []
  a : OwnS w L 25 1 A0 m0 d0 (its0.map hdI) (its0.map bodyI)
  r : OwnS w L 25 1 A1 m1 d1 (its1.map hdI) (its1.map bodyI)
  ot : Apt (blks O []) (blks T [])
  oa : Apt (blks O []) (blks A0 (its0.map bodyI))
  or_ : Apt (blks O []) (blks A1 (its1.map bodyI))
  ta : Apt (blks T []) (blks A0 (its0.map bodyI))
  tr : Apt (blks T []) (blks A1 (its1.map bodyI))
  ar : Apt (blks A0 (its0.map bodyI)) (blks A1 (its1.map bodyI))
section
variable {w w' : World} {B L : Nat} {O : Option Addr} {n c : Nat} {xs : List Int} {T : Option Addr} {n' c' : Nat} {ys : List Int} {A0 : Option Addr} {m0 d0 : Nat} {its0 : List It} {A1 : Option Addr} {m1 d1 : Nat} {its1 : List It}
theorem Four.keep (h : Four w B L O n c xs T n' c' ys A0 m0 d0 its0 A1 m1 d1 its1) (hb : Below w.heap.size w w') : Four w' B L O n c xs T n' c' ys A0 m0 d0 its0 A1 m1 d1 its1 :=
  ⟨h.o.keep hb, h.t.keep hb, h.a.keep hb, h.r.keep hb, h.ot, h.oa, h.or_, h.ta, h.tr, h.ar⟩
theorem moveX {A X : Option Addr} {ss : List Seg} (ha : Apt (blks X []) (blks A ss)) (hs : ∀ b, blks A ss b → b < w.heap.size) (hk : ∀ b, b < w.heap.size → (∀ ad', X = some ad' → ad'.block ≠ b) → w'.heap[b]? = w.heap[b]?) : ∀ b, blks A ss b → w'.heap[b]? = w.heap[b]? :=
  fun b hb => hk b (hs b hb) fun ad' e1 e2 => ha b (.inl ⟨ad', e1, e2⟩) hb
theorem Four.once (h : Four w B L O n c xs T n' c' ys A0 m0 d0 its0 A1 m1 d1 its1) {O' : Option Addr} {k cap : Nat} {zs : List Int} (hown : Own w' B 2 1 O' k cap (zs.map i64)) (hk : ∀ b, b < w.heap.size → (∀ ad', O = some ad' → ad'.block ≠ b) → w'.heap[b]? = w.heap[b]?) (hg : O' = O ∨ O' = some ⟨w.heap.size, 0, none⟩) (hz : w.heap.size ≤ w'.heap.size) :
    Four w' B L O' k cap zs T n' c' ys A0 m0 d0 its0 A1 m1 d1 its1 :=
  ⟨OwnS.nil hown, h.t.moveF (moveX h.ot (fun _ hb => (h.t.lt hb).2) hk) hz, h.a.moveF (moveX h.oa (fun _ hb => (h.a.lt hb).2) hk) hz, h.r.moveF (moveX h.or_ (fun _ hb => (h.r.lt hb).2) hk) hz,
   h.ot.grow (fun _ hb => blks_own hg hb) fun _ hb => (h.t.lt hb).2, h.oa.grow (fun _ hb => blks_own hg hb) fun _ hb => (h.a.lt hb).2, h.or_.grow (fun _ hb => blks_own hg hb) fun _ hb => (h.r.lt hb).2, h.ta, h.tr, h.ar⟩
theorem Four.twice (h : Four w B L O n c xs T n' c' ys A0 m0 d0 its0 A1 m1 d1 its1) {T' : Option Addr} {k cap : Nat} {zs : List Int} (hown : Own w' B 2 1 T' k cap (zs.map i64)) (hk : ∀ b, b < w.heap.size → (∀ ad', T = some ad' → ad'.block ≠ b) → w'.heap[b]? = w.heap[b]?) (hg : T' = T ∨ T' = some ⟨w.heap.size, 0, none⟩) (hz : w.heap.size ≤ w'.heap.size) :
    Four w' B L O n c xs T' k cap zs A0 m0 d0 its0 A1 m1 d1 its1 :=
  ⟨h.o.moveF (moveX h.ot.symm (fun _ hb => (h.o.lt hb).2) hk) hz, OwnS.nil hown, h.a.moveF (moveX h.ta (fun _ hb => (h.a.lt hb).2) hk) hz, h.r.moveF (moveX h.tr (fun _ hb => (h.r.lt hb).2) hk) hz,
   (h.ot.symm.grow (fun _ hb => blks_own hg hb) fun _ hb => (h.o.lt hb).2).symm, h.oa, h.or_, h.ta.grow (fun _ hb => blks_own hg hb) fun _ hb => (h.a.lt hb).2, h.tr.grow (fun _ hb => blks_own hg hb) fun _ hb => (h.r.lt hb).2, h.ar⟩
theorem Apt.head {A : Option Addr} {ss : List Seg} {Y : Nat → Prop} (h : Apt (blks A ss) Y) : Apt (blks A []) Y := fun b hx hy => by
  rcases hx with hx | ⟨_, hs, _⟩
  · exact h b (.inl hx) hy
  · cases hs
theorem rowLies {w0 w1 : World} {s : Seg} (hs : Wr w1 w0.heap.size w1.heap.size s.A s.n s.vs) : ∀ a, s.A = some a → 0 < s.n → w0.heap.size ≤ a.block := fun a ha hn => by
  obtain ⟨a', e', h2, _, _, _⟩ := hs.2 hn
  rw [ha] at e'; injection e' with e'; subst e'; exact h2
theorem headAt {w0 w1 : World} {A : Option Addr} {g' : Nat} (hb : Below w0.heap.size w0 w1) (hg : A = some ⟨g', 0, none⟩ ∨ g' = w1.heap.size) : (some ⟨g', 0, none⟩ : Option Addr) = A ∨ ∃ g, (some ⟨g', 0, none⟩ : Option Addr) = some ⟨g, 0, none⟩ ∧ w0.heap.size ≤ g :=
  hg.elim (fun e => .inl e.symm) fun e => .inr ⟨g', rfl, by rw [e]; exact hb.size⟩
theorem Four.wall {w0 w1 : World} {g' cap k : Nat} {i : It} (h : Four w0 B L O n c xs T n' c' ys A0 m0 d0 its0 A1 m1 d1 its1) (hB : L ≤ w0.heap.size) (hb : Below w0.heap.size w0 w1) (hs : Wr w1 w0.heap.size w1.heap.size i.A i.n (i.xs.map i64))
    (hown : Own w' L 25 1 (some ⟨g', 0, none⟩) k cap (its0.map hdI ++ [hdI i])) (hk : ∀ b, b < w1.heap.size → (∀ ad', A0 = some ad' → ad'.block ≠ b) → w'.heap[b]? = w1.heap[b]?) (hg : A0 = some ⟨g', 0, none⟩ ∨ g' = w1.heap.size) (hz : w1.heap.size ≤ w'.heap.size) :
    Four w' B L O n c xs T n' c' ys (some ⟨g', 0, none⟩) k cap (its0 ++ [i]) A1 m1 d1 its1 := by
  have h1 := h.keep hb
  have hp := h.a.push (s := bodyI i) hB hb hs hown hk hg hz
  have hsub : ∀ b, blks (some ⟨g', 0, none⟩) ((its0 ++ [i]).map bodyI) b → blks A0 (its0.map bodyI) b ∨ w0.heap.size ≤ b := fun _ hbk => blks_push (s := bodyI i) (headAt hb hg) (rowLies (s := bodyI i) hs) (by simpa using hbk)
  exact ⟨h1.o.moveF (moveX h1.oa.symm.head (fun _ hb => (h1.o.lt hb).2) hk) hz, h1.t.moveF (moveX h1.ta.symm.head (fun _ hb => (h1.t.lt hb).2) hk) hz, by simpa using hp, h1.r.moveF (moveX h1.ar.head (fun _ hb => (h1.r.lt hb).2) hk) hz,
    h.ot, (h.oa.symm.grow hsub fun _ hb => (h.o.lt hb).2).symm, h.or_, (h.ta.symm.grow hsub fun _ hb => (h.t.lt hb).2).symm, h.tr, h.ar.grow hsub fun _ hb => (h.r.lt hb).2⟩
theorem Four.rep {w0 w1 : World} {g' cap k : Nat} {i : It} (h : Four w0 B L O n c xs T n' c' ys A0 m0 d0 its0 A1 m1 d1 its1) (hB : L ≤ w0.heap.size) (hb : Below w0.heap.size w0 w1) (hs : Wr w1 w0.heap.size w1.heap.size i.A i.n (i.xs.map i64))
    (hown : Own w' L 25 1 (some ⟨g', 0, none⟩) k cap (its1.map hdI ++ [hdI i])) (hk : ∀ b, b < w1.heap.size → (∀ ad', A1 = some ad' → ad'.block ≠ b) → w'.heap[b]? = w1.heap[b]?) (hg : A1 = some ⟨g', 0, none⟩ ∨ g' = w1.heap.size) (hz : w1.heap.size ≤ w'.heap.size) :
    Four w' B L O n c xs T n' c' ys A0 m0 d0 its0 (some ⟨g', 0, none⟩) k cap (its1 ++ [i]) := by
  have h1 := h.keep hb
  have hp := h.r.push (s := bodyI i) hB hb hs hown hk hg hz
  have hsub : ∀ b, blks (some ⟨g', 0, none⟩) ((its1 ++ [i]).map bodyI) b → blks A1 (its1.map bodyI) b ∨ w0.heap.size ≤ b := fun _ hbk => blks_push (s := bodyI i) (headAt hb hg) (rowLies (s := bodyI i) hs) (by simpa using hbk)
  exact ⟨h1.o.moveF (moveX h1.or_.symm.head (fun _ hb => (h1.o.lt hb).2) hk) hz, h1.t.moveF (moveX h1.tr.symm.head (fun _ hb => (h1.t.lt hb).2) hk) hz, h1.a.moveF (moveX h1.ar.symm.head (fun _ hb => (h1.a.lt hb).2) hk) hz, by simpa using hp,
    h.ot, h.oa, (h.or_.symm.grow hsub fun _ hb => (h.o.lt hb).2).symm, h.ta, (h.tr.symm.grow hsub fun _ hb => (h.t.lt hb).2).symm, (h.ar.symm.grow hsub fun _ hb => (h.a.lt hb).2).symm⟩
end
end Go.Proofs.Ytmmgejnhfpfmnaa
