/-
  Texts divided at a byte, in plain Lean: the library's words (split, cut, replaceAll) and the plain ones. Nothing of the program.
-/
import Derived.Lib.Split
import Derived.Lib.Replace
import Derived.Lib.CountLaws
import Derived.Lib.IndexMore
import Derived.Lib.Join
namespace Go.Proofs.YtdendllginlidaaDoor

/-- the parts of a text between a byte -/
def spl (c : UInt8) : List UInt8 → List (List UInt8)
  | [] => [[]]
  | b :: l => if b = c then [] :: spl c l else ((spl c l).head?.map (b :: ·)).toList ++ (spl c l).tail
theorem spl_ne (c : UInt8) (s : List UInt8) : spl c s ≠ [] := by
  cases s with
  | nil => simp [spl]
  | cons b l =>
    rw [spl]
    split
    · simp
    · have := spl_ne c l
      cases h : spl c l with
      | nil => exact absurd h this
      | cons x xs => simp
theorem spl_other {c b : UInt8} {l x : List UInt8} {xs : List (List UInt8)} (h : b ≠ c) (hs : spl c l = x :: xs) : spl c (b :: l) = (b :: x) :: xs := by
  rw [spl, if_neg h, hs]; rfl
theorem spl_none {c : UInt8} : ∀ {s : List UInt8}, c ∉ s → spl c s = [s]
  | [], _ => rfl
  | b :: l, h => by
    rw [List.mem_cons, not_or] at h
    exact spl_other (fun e => h.1 e.symm) (spl_none h.2)
theorem spl_at {c : UInt8} (b : List UInt8) : ∀ {a : List UInt8}, c ∉ a → spl c (a ++ c :: b) = a :: spl c b
  | [], _ => by rw [List.nil_append, spl, if_pos rfl]
  | d :: a, h => by
    rw [List.mem_cons, not_or] at h
    exact spl_other (fun e => h.1 e.symm) (spl_at b h.2)
/-- an induction over the parts -/
theorem spl_ind {c : UInt8} {P : List UInt8 → Prop} (h0 : ∀ s, c ∉ s → P s) (h1 : ∀ a b, c ∉ a → P b → P (a ++ c :: b)) (s : List UInt8) : P s := by
  have all : ∀ n s, s.length ≤ n → P s := by
    intro n
    induction n with
    | zero => intro s hs; obtain rfl := List.length_eq_zero_iff.1 (show s.length = 0 by omega); exact h0 _ (by simp)
    | succ n ih =>
      intro s hs
      by_cases hc : c ∈ s
      · obtain ⟨a, b, rfl, ha⟩ := List.eq_append_cons_of_mem hc
        exact h1 a b ha (ih b (by rw [List.length_append, List.length_cons] at hs; omega))
      · exact h0 s hc
  exact all _ s (Nat.le_refl _)
theorem spl_mem (c : UInt8) (s : List UInt8) : ∀ x ∈ spl c s, c ∉ x := by
  refine spl_ind (c := c) (P := fun s => ∀ x ∈ spl c s, c ∉ x) (fun s h x hx => ?_) (fun a b ha ih x hx => ?_) s
  · rw [spl_none h, List.mem_singleton] at hx; subst hx; exact h
  · rw [spl_at b ha] at hx
    rcases List.mem_cons.1 hx with rfl | hx
    · exact ha
    · exact ih x hx
theorem joinT_cons (c : UInt8) (x : List UInt8) (r : List (List UInt8)) : Lib.joinTail [c] (x :: r) = c :: x ++ Lib.joinTail [c] r := by simp [Lib.joinTail]
theorem join_spl (c : UInt8) (s : List UInt8) : Lib.join (spl c s) [c] = s := by
  refine spl_ind (c := c) (P := fun s => Lib.join (spl c s) [c] = s) (fun s h => ?_) (fun a b ha ih => ?_) s
  · rw [spl_none h, Lib.join_one]
  · rw [spl_at b ha]
    cases hs : spl c b with
    | nil => exact absurd hs (spl_ne c b)
    | cons x xs =>
      rw [hs, Lib.join_cons] at ih
      rw [Lib.join_cons, joinT_cons, List.cons_append, ih]
theorem spl_join {c : UInt8} : ∀ {L : List (List UInt8)}, L ≠ [] → (∀ x ∈ L, c ∉ x) → spl c (Lib.join L [c]) = L
  | [], h, _ => absurd rfl h
  | [x], _, h => by rw [Lib.join_one]; exact spl_none (h x (by simp))
  | x :: y :: r, _, h => by
    rw [Lib.join_cons, joinT_cons, List.cons_append, spl_at _ (h x (by simp)), ← Lib.join_cons, spl_join (by simp) fun z hz => h z (List.mem_cons_of_mem _ hz)]
theorem spl_len (c : UInt8) (s : List UInt8) : (spl c s).length = s.count c + 1 := by
  refine spl_ind (c := c) (P := fun s => (spl c s).length = s.count c + 1) (fun s h => ?_) (fun a b ha ih => ?_) s
  · rw [spl_none h, List.count_eq_zero.2 h]; rfl
  · rw [spl_at b ha, List.length_cons, ih, List.count_append, List.count_cons_self, List.count_eq_zero.2 ha]; omega
/-! ### the library's words -/
theorem idx1_miss {c : UInt8} : ∀ {s : List UInt8}, c ∉ s → Lib.index s [c] = -1
  | [], _ => rfl
  | b :: l, h => by
    rw [List.mem_cons, not_or] at h
    have hp : List.isPrefixOf [c] (b :: l) = false := by simp [List.isPrefixOf]; exact h.1
    rw [Lib.index, hp, if_neg (by simp), idx1_miss h.2]; rfl
theorem idx1_hit {c : UInt8} (b : List UInt8) : ∀ {a : List UInt8}, c ∉ a → Lib.index (a ++ c :: b) [c] = a.length
  | [], _ => by
    have hp : List.isPrefixOf [c] (c :: b) = true := by simp [List.isPrefixOf]
    rw [List.nil_append, Lib.index, if_pos hp]; rfl
  | d :: a, h => by
    rw [List.mem_cons, not_or] at h
    have hp : List.isPrefixOf [c] (d :: (a ++ c :: b)) = false := by simp [List.isPrefixOf]; exact h.1
    rw [List.cons_append, Lib.index, hp, if_neg (by simp), idx1_hit b h.2, if_neg (by simp <;> omega), List.length_cons]; rfl
theorem count1 (c : UInt8) (s : List UInt8) : Lib.count s [c] = s.count c := by
  refine spl_ind (c := c) (P := fun s => Lib.count s [c] = s.count c) (fun s h => ?_) (fun a b ha ih => ?_) s
  · rw [Lib.count_miss (idx1_miss h), List.count_eq_zero.2 h]
  · rw [Lib.count_hit (by simp) (idx1_hit b ha), List.count_append, List.count_cons_self, List.count_eq_zero.2 ha]
    have : (a ++ c :: b).drop (a.length + [c].length) = b := by simp
    rw [this, ih]; omega
theorem splitK1 (c : UInt8) (s : List UInt8) : ∀ k, s.count c ≤ k → Lib.splitK [c] 0 k s = spl c s := by
  refine spl_ind (c := c) (P := fun s => ∀ k, s.count c ≤ k → Lib.splitK [c] 0 k s = spl c s) (fun s h k _ => ?_) (fun a b ha ih k hk => ?_) s
  · cases k with
    | zero => rw [spl_none h]; rfl
    | succ k => rw [Lib.splitK, idx1_miss h, spl_none h]; rfl
  · rw [List.count_append, List.count_cons_self, List.count_eq_zero.2 ha] at hk
    obtain ⟨k, rfl⟩ : ∃ j, k = j + 1 := ⟨k - 1, by omega⟩
    have e : (a ++ c :: b).drop (a.length + [c].length) = b := by simp
    rw [Lib.splitK, idx1_hit b ha, if_neg (by simp <;> omega), Int.toNat_natCast, Nat.add_zero, e, ih k (by omega), spl_at b ha]
    simp
theorem splitB1 (c : UInt8) (s : ByteArray) : (Lib.splitB ⟨#[c]⟩ 0 (Lib.countB s ⟨#[c]⟩) s).map (·.data.toList) = spl c s.data.toList := by
  rw [Lib.splitB_data]
  exact splitK1 c _ _ (by show _ ≤ Lib.count s.data.toList [c]; rw [count1]; exact Nat.le_refl _)
theorem countB1 (c : UInt8) (s : ByteArray) : Lib.countB s ⟨#[c]⟩ + 1 = (spl c s.data.toList).length := by
  rw [spl_len, ← count1, Lib.countB]
theorem cut1 (c : UInt8) (s : List UInt8) : (c ∉ s → Lib.cut s [c] = (s, [], false)) ∧ ∀ a b, c ∉ a → s = a ++ c :: b → Lib.cut s [c] = (a, b, true) := by
  refine ⟨fun h => ?_, fun a b ha hs => ?_⟩
  · rw [Lib.cut, idx1_miss h, if_neg (by decide)]
  · subst hs
    have e : (a ++ c :: b).drop (a.length + [c].length) = b := by simp
    rw [Lib.cut, idx1_hit b ha, if_pos (by omega), Int.toNat_natCast, e, List.take_left]
theorem replaceK1 {c d : UInt8} (s : List UInt8) : ∀ k, s.count c ≤ k → Lib.replaceK [c] [d] k s = s.map fun x => if x = c then d else x := by
  refine spl_ind (c := c) (P := fun s => ∀ k, s.count c ≤ k → Lib.replaceK [c] [d] k s = s.map fun x => if x = c then d else x) (fun s h k _ => ?_) (fun a b ha ih k hk => ?_) s
  · have hm : (s.map fun x => if x = c then d else x) = s := by
      refine (List.map_congr_left fun x hx => ?_).trans (List.map_id s)
      exact if_neg (fun e : x = c => h (by rw [← e]; exact hx))
    cases k with
    | zero => rw [hm]; rfl
    | succ k => rw [Lib.replaceK, idx1_miss h, hm]; rfl
  · rw [List.count_append, List.count_cons_self, List.count_eq_zero.2 ha] at hk
    obtain ⟨k, rfl⟩ : ∃ j, k = j + 1 := ⟨k - 1, by omega⟩
    have e : (a ++ c :: b).drop (a.length + [c].length) = b := by simp
    have hm : (a.map fun x => if x = c then d else x) = a := by
      refine (List.map_congr_left fun x hx => ?_).trans (List.map_id a)
      exact if_neg (fun e : x = c => ha (by rw [← e]; exact hx))
    rw [Lib.replaceK, idx1_hit b ha, if_neg (by simp <;> omega), Int.toNat_natCast, e, ih k (by omega), List.map_append, List.map_cons, hm, if_pos rfl]
    simp
theorem replaceAll1 {c d : UInt8} (h : c ≠ d) (s : List UInt8) : Lib.replaceAll s [c] [d] = s.map fun x => if x = c then d else x := by
  rw [Lib.replaceAll, Lib.replace, if_neg (by simpa using h), Lib.replaceNum, if_pos (.inl (by decide))]
  exact replaceK1 s _ (by rw [count1]; exact Nat.le_refl _)
/-- divided at two bytes, one after the other, or at one where the other has been replaced -/
theorem spl_repl {c d : UInt8} (s : List UInt8) : spl d (s.map fun x => if x = c then d else x) = (spl c s).flatMap (spl d) := by
  refine spl_ind (c := c) (P := fun s => spl d (s.map fun x => if x = c then d else x) = (spl c s).flatMap (spl d)) (fun s hs => ?_) (fun a b ha ih => ?_) s
  · have hm : (s.map fun x => if x = c then d else x) = s := by
      refine (List.map_congr_left fun x hx => ?_).trans (List.map_id s)
      exact if_neg (fun e : x = c => hs (by rw [← e]; exact hx))
    rw [hm, spl_none hs]; simp
  · have hm : (a.map fun x => if x = c then d else x) = a := by
      refine (List.map_congr_left fun x hx => ?_).trans (List.map_id a)
      exact if_neg (fun e : x = c => ha (by rw [← e]; exact hx))
    rw [List.map_append, List.map_cons, hm, if_pos rfl, spl_at b ha, List.flatMap_cons, ← ih]
    have key : ∀ a q : List UInt8, spl d (a ++ d :: q) = spl d a ++ spl d q := by
      intro a q
      refine spl_ind (c := d) (P := fun a => spl d (a ++ d :: q) = spl d a ++ spl d q) (fun a h => ?_) (fun x y hx ihy => ?_) a
      · rw [spl_at q h, spl_none h]; rfl
      · rw [List.append_assoc, List.cons_append, spl_at _ hx, ihy, spl_at y hx]; rfl
    exact key a _
theorem spl_one {c : UInt8} {s a : List UInt8} (h : spl c s = [a]) : s = a ∧ c ∉ a := by
  have h1 := join_spl c s
  rw [h, Lib.join_one] at h1
  exact ⟨h1.symm, spl_mem c s a (by rw [h]; simp)⟩
theorem spl_two {c : UInt8} {s a b : List UInt8} (h : spl c s = [a, b]) : s = a ++ c :: b ∧ c ∉ a ∧ c ∉ b := by
  have h1 := join_spl c s
  rw [h, Lib.join_cons, joinT_cons] at h1
  exact ⟨by rw [← h1]; simp [Lib.joinTail], spl_mem c s a (by rw [h]; simp), spl_mem c s b (by rw [h]; simp)⟩
theorem join_not {c d : UInt8} (hcd : c ≠ d) : ∀ {L : List (List UInt8)}, (∀ x ∈ L, c ∉ x) → c ∉ Lib.join L [d]
  | [], _ => by rw [Lib.join_nil]; simp
  | [x], h => by rw [Lib.join_one]; exact h x (by simp)
  | x :: y :: r, h => by
    rw [Lib.join_cons, joinT_cons, List.cons_append, ← Lib.join_cons, List.mem_append, List.mem_cons]
    rintro (g | g | g)
    · exact h x (by simp) g
    · exact hcd g
    · exact join_not hcd (fun z hz => h z (List.mem_cons_of_mem _ hz)) g
end Go.Proofs.YtdendllginlidaaDoor
