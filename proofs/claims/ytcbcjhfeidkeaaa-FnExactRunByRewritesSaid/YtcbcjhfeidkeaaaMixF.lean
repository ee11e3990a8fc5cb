/-
  A region that draws its order and holds one allocation which no edge orders against the calls beside it: walked in the order of the text, with a branch at each call (the allocation now, or later).
-/
import Derived.Test.YtcbcjhfeidkeaaaMix
namespace Go.Proofs.Ytcbcjhfeidkeaaa
namespace Mix
section
variable {P : Program} {ops : Array Oper} {C : World → Prop} {kd : Nat → Nat} {Q : Act → World → Prop} {x : Nat}

def mixF (P : Program) (ops : Array Oper) (C : World → Prop) (kd : Nat → Nat) (Q : Act → World → Prop) (x : Nat) : List Nat → Act → World → Prop
  | [], a, w => Q a w
  | i :: L, a, w =>
    if i = x then mixAt P ops C (kd i) i (mixL P ops C kd Q L) a w
    else if kd i = 1 ∧ x ∈ L then mixAt P ops C (kd i) i (mixF P ops C kd Q x L) a w ∧ mixAt P ops C (kd x) x (mixL P ops C kd Q (i :: L.erase x)) a w
    else mixAt P ops C (kd i) i (mixF P ops C kd Q x L) a w

theorem mixF_at (L : List Nat) (a : Act) (w : World) : mixF P ops C kd Q x (x :: L) a w = mixAt P ops C (kd x) x (mixL P ops C kd Q L) a w := by
  simp [mixF]
theorem mixF_chg {i : Nat} {L : List Nat} (h : i ≠ x) (h1 : kd i = 1) (h2 : x ∈ L) (a : Act) (w : World) : mixF P ops C kd Q x (i :: L) a w = (mixAt P ops C (kd i) i (mixF P ops C kd Q x L) a w ∧ mixAt P ops C (kd x) x (mixL P ops C kd Q (i :: L.erase x)) a w) := by
  rw [mixF, if_neg h, if_pos ⟨h1, h2⟩]
theorem mixF_else {i : Nat} {L : List Nat} (h : i ≠ x) (h1 : ¬ (kd i = 1 ∧ x ∈ L)) (a : Act) (w : World) : mixF P ops C kd Q x (i :: L) a w = mixAt P ops C (kd i) i (mixF P ops C kd Q x L) a w := by
  rw [mixF, if_neg h, if_neg h1]
theorem mixF_first {i : Nat} {L : List Nat} (h : i ≠ x) (a : Act) (w : World) (hh : mixF P ops C kd Q x (i :: L) a w) : mixAt P ops C (kd i) i (mixF P ops C kd Q x L) a w := by
  by_cases h1 : kd i = 1 ∧ x ∈ L
  · rw [mixF_chg h h1.1 h1.2] at hh; exact hh.1
  · rw [mixF_else h h1] at hh; exact hh
theorem mixF_none : ∀ (L : List Nat), x ∉ L → mixF P ops C kd Q x L = mixL P ops C kd Q L
  | [], _ => by funext a w; rfl
  | i :: L, h => by
    funext a w
    have hn : x ∉ L := fun hx => h (by simp [hx])
    rw [mixF_else (fun e => h (by simp [e])) (fun hx => hn hx.2), mixF_none L hn, mixL]

theorem mixAt_and {k i : Nat} {K1 K2 : Act → World → Prop} {a : Act} {w : World} (hk1 : k ≠ 1) (hk2 : k ≠ 2) (hC : k ≠ 0 → C w) (h1 : mixAt P ops C k i K1 a w) (h2 : mixAt P ops C k i K2 a w) :
    mixAt P ops C k i (fun a w => K1 a w ∧ K2 a w) a w := by
  unfold mixAt at *
  cases ho : ops[i]? with
  | none => rw [ho] at h1 h2; exact ⟨h1, h2⟩
  | some o =>
    rw [ho] at h1 h2
    simp only at h1 h2 ⊢
    split
    · rename_i hw
      rw [if_pos hw] at h1 h2
      by_cases h0 : k = 0
      · rw [if_pos h0] at h1 h2 ⊢
        obtain ⟨v, a1, a2⟩ := h1
        obtain ⟨u, b1, b2⟩ := h2
        have e := reads_inj (a1 w) (b1 w)
        subst e
        exact ⟨v, a1, a2, b2⟩
      · simp only [h0, hk1, hk2, if_false] at h1 h2 ⊢
        obtain ⟨v, a1, a2⟩ := h1
        obtain ⟨u, b1, b2⟩ := h2
        have e := reads_inj (a1 w (hC h0)) (b1 w (hC h0))
        subst e
        exact ⟨v, a1, a2, b2⟩
    · rename_i hw
      rw [if_neg hw] at h1 h2
      exact ⟨h1, h2⟩

variable (hsel : ∀ (j : Nat) (o : Oper) cs b, ops[j]? = some o → o.op ≠ .select cs b)
include hsel

/-- the allocation first -/
theorem mixF_alloc {ox : Oper} (hx : ops[x]? = some ox) (hkx : kd x = 1) (L2 : List Nat) : ∀ (L1 : List Nat) (a : Act) (w : World), x ∉ L1 →
    (∀ j ∈ L1, kd j = 1 ∨ (kd j ≠ 2 ∧ ∃ oj, ops[j]? = some oj ∧ ox.apart ops oj = true ∧ okPair (kd x) (kd j) = true)) → C w →
    mixF P ops C kd Q x (L1 ++ x :: L2) a w → mixAt P ops C (kd x) x (mixL P ops C kd Q (L1 ++ L2)) a w
  | [], a, w, _, _, _, h => by rw [List.nil_append, mixF_at] at h; exact h
  | j :: L1, a, w, hn, hap, hC, h => by
    have hjx : j ≠ x := fun e => hn (by simp [e])
    have hn' : x ∉ L1 := fun e => hn (by simp [e])
    rw [List.cons_append] at h
    by_cases k1 : kd j = 1
    · rw [mixF_chg hjx k1 (by simp)] at h
      have h2 := h.2
      rw [List.erase_append_right _ hn', List.erase_cons_head] at h2
      exact h2
    · rw [mixF_else hjx (fun e => k1 e.1)] at h
      rcases hap j (by simp) with h1 | ⟨k2, oj, hj, hjap, hok⟩
      · exact absurd h1 k1
      have hm : mixAt P ops C (kd j) j (mixAt P ops C (kd x) x (mixL P ops C kd Q (L1 ++ L2))) a w := by
        refine mixAt_mono (fun a' w' h1 hs hk => ?_) (by rw [hj]; simp) h (fun e => absurd e k1)
        exact mixF_alloc hx hkx L2 L1 a' w' hn' (fun j' hj' => hap j' (by simp [hj'])) (by rw [hs k1 k2]; exact hC) hk
      exact mixAt_swap hx hj hjap (fun cs b => hsel x ox cs b hx) (fun cs b => hsel j oj cs b hj) hok (fun _ _ _ => hC) (fun _ => hC) hm

/-- another operation first -/
theorem mixF_bubble {ox : Oper} (hx : ops[x]? = some ox) (hkx : kd x = 1) {i : Nat} {oi : Oper} (hi : ops[i]? = some oi) (hix : i ≠ x) (L2 : List Nat) :
    ∀ (L1 : List Nat) (a : Act) (w : World),
      (x ∈ L1 ++ i :: L2 → kd i ≠ 1 → kd i ≠ 2 → oi.apart ops ox = true ∧ okPair (kd i) (kd x) = true) →
      (∀ j ∈ L1, ∃ oj, ops[j]? = some oj ∧ oi.apart ops oj = true ∧ okPair (kd i) (kd j) = true) →
      (∀ A j B, L1 ++ i :: L2 = A ++ j :: B → kd j = 2 → ¬ leans kd B) →
      (leans kd (L1 ++ i :: L2) → C w) → mixF P ops C kd Q x (L1 ++ i :: L2) a w → mixAt P ops C (kd i) i (mixF P ops C kd Q x (L1 ++ L2)) a w
  | [], a, w, _, _, _, _, h => mixF_first hix a w h
  | j :: L1, a, w, hax, hap, htail, hC, h => by
    obtain ⟨oj, hj, hjap, hok⟩ := hap j (by simp)
    have hin : kd i ≠ 0 → kd i ≠ 2 → leans kd (j :: L1 ++ i :: L2) := fun h0 h2 => ⟨i, by simp, h0, h2⟩
    have hstep : ∀ (_ : Act) (w' : World), (kd j = 1 → C w') → (kd j ≠ 1 → kd j ≠ 2 → w' = w) → leans kd (L1 ++ i :: L2) → C w' := by
      intro a' w' h1 hs hl
      by_cases k1 : kd j = 1
      · exact h1 k1
      by_cases k2 : kd j = 2
      · exact absurd hl (htail [] j (L1 ++ i :: L2) rfl k2)
      · rw [hs k1 k2]; obtain ⟨y, hy, hy'⟩ := hl; exact hC ⟨y, by simp only [List.cons_append, List.mem_cons]; exact .inr hy, hy'⟩
    have htail' : ∀ A j' B, L1 ++ i :: L2 = A ++ j' :: B → kd j' = 2 → ¬ leans kd B := fun A j' B he => htail (j :: A) j' B (by simp [he])
    have hap' : ∀ j' ∈ L1, ∃ oj, ops[j']? = some oj ∧ oi.apart ops oj = true ∧ okPair (kd i) (kd j') = true := fun j' hj' => hap j' (by simp [hj'])
    have hsw := fun {K : Act → World → Prop} (hm : mixAt P ops C (kd j) j (mixAt P ops C (kd i) i K) a w) =>
      mixAt_swap hi hj hjap (fun cs b => hsel i oi cs b hi) (fun cs b => hsel j oj cs b hj) hok (fun h0 _ h2 => hC (hin h0 h2)) (fun h1 => hC (hin (by omega) (by omega))) hm
    have hjC : kd j = 1 → C w := fun hj1 => hC ⟨j, by simp, by omega, by omega⟩
    rw [List.cons_append] at h
    by_cases hjx : j = x
    · subst hjx
      rw [mixF_at] at h
      have hm : mixAt P ops C (kd j) j (mixAt P ops C (kd i) i (mixL P ops C kd Q (L1 ++ L2))) a w := by
        refine mixAt_mono (fun a' w' h1 hs hk => ?_) (by rw [hj]; simp) h hjC
        exact mixL_bubble hsel hi L2 L1 a' w' hap' htail' (hstep a' w' h1 hs) hk
      have := hsw hm
      rw [List.cons_append]
      have e : mixF P ops C kd Q j (j :: (L1 ++ L2)) = mixAt P ops C (kd j) j (mixL P ops C kd Q (L1 ++ L2)) := by funext a w; exact mixF_at _ a w
      rw [e]; exact this
    · have hmem : x ∈ L1 ++ i :: L2 ↔ x ∈ L1 ++ L2 := by simp [Ne.symm hix]
      have hmain : mixAt P ops C (kd j) j (mixF P ops C kd Q x (L1 ++ i :: L2)) a w → mixAt P ops C (kd i) i (mixAt P ops C (kd j) j (mixF P ops C kd Q x (L1 ++ L2))) a w := by
        intro hh
        refine hsw (mixAt_mono (fun a' w' h1 hs hk => ?_) (by rw [hj]; simp) hh hjC)
        exact mixF_bubble hx hkx hi hix L2 L1 a' w' (fun hm => hax (by simp only [List.cons_append, List.mem_cons]; exact .inr hm)) hap' htail' (hstep a' w' h1 hs) hk
      by_cases hcase : kd j = 1 ∧ x ∈ L1 ++ i :: L2
      · rw [mixF_chg hjx hcase.1 hcase.2] at h
        have k1 : kd i ≠ 1 := by intro e; rw [e, hcase.1] at hok; simp [okPair] at hok
        have k2 : kd i ≠ 2 := by intro e; rw [e, hcase.1] at hok; simp [okPair] at hok
        have hcw := hjC hcase.1
        obtain ⟨hax1, hax2⟩ := hax (by simp only [List.cons_append, List.mem_cons]; exact .inr hcase.2) k1 k2
        have h1 := hmain h.1
        have h2 : mixAt P ops C (kd i) i (mixAt P ops C (kd x) x (mixL P ops C kd Q (j :: (L1 ++ L2).erase x))) a w := by
          have hb := h.2
          have hx1 : ∀ (M1 M2 : List Nat), (∀ y ∈ M1, y ∈ L1) → mixAt P ops C (kd x) x (mixL P ops C kd Q (j :: (M1 ++ i :: M2))) a w → (∀ A j' B, j :: (M1 ++ i :: M2) = A ++ j' :: B → kd j' = 2 → ¬ leans kd B) →
              mixAt P ops C (kd i) i (mixAt P ops C (kd x) x (mixL P ops C kd Q (j :: (M1 ++ M2)))) a w := by
            intro M1 M2 hsub hh ht
            have hm : mixAt P ops C (kd x) x (mixAt P ops C (kd i) i (mixL P ops C kd Q (j :: (M1 ++ M2)))) a w := by
              refine mixAt_mono (fun a' w' h1 hs hk => ?_) (by rw [hx]; simp) hh (fun _ => hcw)
              refine mixL_bubble hsel hi M2 (j :: M1) a' w' (fun j' hj' => ?_) ht (fun _ => h1 hkx) hk
              rcases List.mem_cons.1 hj' with rfl | hj'
              · exact ⟨oj, hj, hjap, hok⟩
              · exact hap' j' (hsub j' hj')
            exact mixAt_swap hi hx hax1 (fun cs b => hsel i oi cs b hi) (fun cs b => hsel x ox cs b hx) hax2 (fun _ _ _ => hcw) (fun e => absurd e k1) hm
          have tl : ∀ (M : List Nat), List.Sublist M (L1 ++ i :: L2) → ∀ A j' B, j :: M = A ++ j' :: B → kd j' = 2 → ¬ leans kd B := by
            intro M hM A j' B he hk2 hl
            have hs : List.Sublist (A ++ j' :: B) (j :: (L1 ++ i :: L2)) := by rw [← he]; exact hM.cons_cons j
            obtain ⟨l1, l2, e, s1, s2⟩ := List.append_sublist_iff.1 hs
            obtain ⟨r1, r2, e2, s3, s4⟩ := List.cons_sublist_iff.1 s2
            obtain ⟨c1, c2, rfl⟩ := List.append_of_mem s3
            refine htail (l1 ++ c1) j' (c2 ++ r2) (by rw [List.cons_append, e, e2]; simp) hk2 ?_
            obtain ⟨y, hy, hy'⟩ := hl
            exact ⟨y, by simp only [List.mem_append]; exact .inr (s4.subset hy), hy'⟩
          by_cases hx1m : x ∈ L1
          · rw [List.erase_append_left _ hx1m] at hb ⊢
            exact hx1 (L1.erase x) L2 (fun y hy => List.mem_of_mem_erase hy) hb (tl _ (List.Sublist.append List.erase_sublist (List.Sublist.refl _)))
          · rw [List.erase_append_right _ hx1m, List.erase_cons_tail (by simp [hix])] at hb
            rw [List.erase_append_right _ hx1m]
            exact hx1 L1 (L2.erase x) (fun y hy => hy) hb (tl _ (List.Sublist.append (List.Sublist.refl _) (List.erase_sublist.cons_cons i)))
        have h3 := mixAt_and k1 k2 (fun _ => hcw) h1 h2
        refine mixAt_mono (fun a' w' _ _ hk => ?_) (by rw [hi]; simp) h3 (fun e => absurd e k1)
        rw [List.cons_append, mixF_chg hjx hcase.1 (hmem.1 hcase.2)]
        exact hk
      · rw [mixF_else hjx hcase] at h
        have e : mixF P ops C kd Q x (j :: (L1 ++ L2)) = mixAt P ops C (kd j) j (mixF P ops C kd Q x (L1 ++ L2)) := by
          funext a w; exact mixF_else hjx (fun e => hcase ⟨e.1, hmem.2 e.2⟩) a w
        rw [List.cons_append, e]
        exact hmain h

theorem wpAny_of_mixF {md : Region.Mode} {Q' : Exit → Act → World → Prop} {ox : Oper} (hxo : ops[x]? = some ox) (hkx : kd x = 1)
    (hlow : ∀ i o, ops[i]? = some o → ∀ e ∈ o.after, Region.binds md e = true → e.on < i)
    (hpair : ∀ i j oi oj, j < i → i ≠ x → j ≠ x → ops[i]? = some oi → ops[j]? = some oj → Needs md ops i j ∨ (oi.apart ops oj = true ∧ okPair (kd i) (kd j) = true))
    (hx : ∀ i oi, ops[i]? = some oi → i ≠ x → (kd i = 1 ∧ i < x) ∨ (x < i ∧ Needs md ops i x) ∨ (kd i ≠ 1 ∧ kd i ≠ 2 ∧ oi.apart ops ox = true ∧ ox.apart ops oi = true))
    (htail : ∀ i j, j < i → i < ops.size → kd j = 2 → kd i = 0 ∨ kd i = 2)
    (hfin : ∀ a w, Q a w → Q' .normal a w) : ∀ (n : Nat) (L : List Nat) (listed : Array Bool) (a : Act) (w : World), L.length = n → listed.size = ops.size → (∀ j, j ∈ L ↔ j < ops.size ∧ listed.getD j true = false) → L.Pairwise (· < ·) →
      Closed md ops listed → (leans kd L → C w) → mixF P ops C kd Q x L a w → wpAny P md ops Q' n listed a w := by
  have okx : ∀ k, k ≠ 1 → k ≠ 2 → okPair k 1 = true ∧ okPair 1 k = true := by
    intro k h1 h2; simp [okPair, h1, h2]
  intro n
  induction n with
  | zero =>
    intro L listed a w hn _ hL _ _ _ h
    have hL0 : L = [] := List.eq_nil_of_length_eq_zero hn
    subst hL0
    refine ⟨?_, hfin _ _ h⟩
    apply List.eq_nil_iff_forall_not_mem.2
    intro i hi
    obtain ⟨h0, o, ho, _⟩ := mem_ready.1 hi
    have := (hL i).2 ⟨(Array.getElem?_eq_some_iff.1 ho).1, h0⟩
    cases this
  | succ n ih =>
    intro L listed a w hn hsz hL hsort hcl hC h
    refine ⟨fun hr => ?_, fun i hi => ?_⟩
    · exfalso
      cases L with
      | nil => simp at hn
      | cons i0 L =>
        obtain ⟨hlt, hun⟩ := (hL i0).1 (by simp)
        have : i0 ∈ Region.ready md ops listed := by
          refine mem_ready.2 ⟨hun, ops[i0], by simp [hlt], fun e he hb => ?_⟩
          have hon := hlow i0 ops[i0] (by simp [hlt]) e he hb
          refine getD_ft (by omega) fun hf => ?_
          have hm := (hL e.on).2 ⟨by omega, hf⟩
          rcases List.mem_cons.1 hm with hm | hm
          · omega
          · have := (List.pairwise_cons.1 hsort).1 _ hm; omega
        rw [hr] at this
        cases this
    · obtain ⟨hun, oi, hoi, hall⟩ := mem_ready.1 hi
      have hilt : i < ops.size := (Array.getElem?_eq_some_iff.1 hoi).1
      have him : i ∈ L := (hL i).2 ⟨hilt, hun⟩
      obtain ⟨L1, L2, rfl⟩ := List.append_of_mem him
      have hs := List.pairwise_append.1 hsort
      have hs2 := List.pairwise_cons.1 hs.2.1
      have hni : i ∉ L1 ++ L2 := by
        intro hm
        rcases List.mem_append.1 hm with hj | hj
        · exact absurd (hs.2.2 i hj i (by simp)) (by omega)
        · exact absurd (hs2.1 i hj) (by omega)
      have hb : mixAt P ops C (kd i) i (mixF P ops C kd Q x (L1 ++ L2)) a w := by
        by_cases hix : i = x
        · subst hix
          have hA := mixF_alloc hsel hxo hkx L2 L1 a w (fun hm => hni (by simp [hm])) (fun j hj => ?_) (hC ⟨i, him, by omega, by omega⟩) h
          · rw [mixF_none _ hni]; exact hA
          · have hjm := (hL j).1 (by simp [hj])
            have hjlt := hs.2.2 j hj i (by simp)
            rcases hx j ops[j] (by simp [hjm.1]) (by omega) with h1 | h2 | ⟨k1, k2, _, h4⟩
            · exact .inl h1.1
            · omega
            · exact .inr ⟨k2, ops[j], by simp [hjm.1], h4, by rw [hkx]; exact (okx _ k1 k2).2⟩
        · refine mixF_bubble hsel hxo hkx hoi hix L2 L1 a w (fun hxm k1 k2 => ?_) (fun j hj => ?_) (fun A j B he hj2 => ?_) hC h
          · rcases hx i oi hoi hix with h1 | h2 | ⟨_, _, h3, _⟩
            · exact absurd h1.1 k1
            · exact absurd ((hL x).1 hxm).2 (getD_tf (by have := ((hL x).1 hxm).1; omega) (h2.2.ready hcl hi))
            · exact ⟨h3, by rw [hkx]; exact (okx _ k1 k2).1⟩
          · have hjm := (hL j).1 (by simp [hj])
            have hjlt := hs.2.2 j hj i (by simp)
            refine ⟨ops[j], by simp [hjm.1], ?_⟩
            by_cases hjx : j = x
            · subst hjx
              have hoj : ops[j] = ox := by have := hxo; simp [hjm.1] at this; exact this
              rw [hoj]
              rcases hx i oi hoi hix with h1 | h2 | ⟨k1, k2, h3, _⟩
              · omega
              · exact absurd hjm.2 (getD_tf (by omega) (h2.2.ready hcl hi))
              · exact ⟨h3, by rw [hkx]; exact (okx _ k1 k2).1⟩
            · rcases hpair i j oi ops[j] hjlt hix hjx hoi (by simp [hjm.1]) with hN | hok
              · exact absurd hjm.2 (getD_tf (by omega) (hN.ready hcl hi))
              · exact hok
          · rintro ⟨y, hy, hy0, hy2⟩
            have hso := hsort
            rw [he] at hso
            have hjy := (List.pairwise_cons.1 (List.pairwise_append.1 hso).2.1).1 y hy
            have hym := (hL y).1 (by rw [he]; simp [hy])
            rcases htail y j hjy hym.1 hj2 with hz | hz
            · exact hy0 hz
            · exact hy2 hz
      refine wpOp_of_mixAt hoi (fun a' w' h1 hsame hk => ?_) (fun h0 h2 => hC ⟨i, him, h0, h2⟩) hb
      refine ih (L1 ++ L2) _ a' w' (by simp at hn ⊢; omega) (by simp [hsz]) (fun j => ?_) ?_ ?_ (fun hl => ?_) hk
      · have hji := hL j
        simp only [List.mem_append, List.mem_cons] at hji ⊢
        by_cases hj : j = i
        · subst hj
          constructor
          · intro hj; exact absurd (List.mem_append.2 hj) hni
          · rintro ⟨_, hx⟩
            exfalso
            simp [Array.getD, hsz, hilt] at hx
        · rw [getD_set_ne true (Ne.symm hj)]
          constructor
          · intro hx; exact hji.1 (by rcases hx with hx | hx <;> simp [hx])
          · intro hx; rcases hji.2 hx with hx | hx | hx
            · exact .inl hx
            · exact absurd hx hj
            · exact .inr hx
      · exact List.pairwise_append.2 ⟨hs.1, hs2.2, fun x hx y hy => hs.2.2 x hx y (by simp [hy])⟩
      · intro k ok hk hlk e he hbd
        by_cases hki : k = i
        · subst hki
          have : ok = oi := Option.some.inj (hk.symm.trans hoi)
          subst this
          exact getD_set_true (hall e he hbd)
        · rw [getD_set_ne false (Ne.symm hki)] at hlk
          exact getD_set_true (hcl k ok hk hlk e he hbd)
      · by_cases k1 : kd i = 1
        · exact h1 k1
        by_cases k2 : kd i = 2
        · exfalso
          obtain ⟨y, hy, hy0, hy2⟩ := hl
          rcases List.mem_append.1 hy with hy | hy
          · have hylt := hs.2.2 y hy i (by simp)
            have hym := (hL y).1 (by simp [hy])
            have hix : i ≠ x := by intro e; rw [e, hkx] at k2; omega
            by_cases hyx : y = x
            · subst hyx
              rcases hx i oi hoi hix with h1 | h2 | ⟨_, h3, _⟩
              · omega
              · exact getD_tf (by omega) (h2.2.ready hcl hi) hym.2
              · exact h3 k2
            · rcases hpair i y oi ops[y] hylt hix hyx hoi (by simp [hym.1]) with hN | ⟨_, hok⟩
              · exact getD_tf (by omega) (hN.ready hcl hi) hym.2
              · simp [okPair, k2] at hok; omega
          · have hylt := hs2.1 y hy
            have hym := (hL y).1 (by simp [hy])
            rcases htail y i hylt hym.1 k2 with hz | hz
            · exact hy0 hz
            · exact hy2 hz
        · rw [hsame k1 k2]
          obtain ⟨y, hy, hy'⟩ := hl
          exact hC ⟨y, by rcases List.mem_append.1 hy with hy | hy <;> simp [hy], hy'⟩
omit hsel in
theorem mixAt_of_wpMix {k i : Nat} {o : Oper} {K : Act → World → Prop} {a : Act} {w : World} (ho : ops[i]? = some o) (h : wpMix P ops C K [k] [o] a w) : mixAt P ops C k i K a w := by
  rw [mixAt_some ho]
  unfold wpMix at h
  have e : wpMix P ops C K [] [] = K := by funext a w; unfold wpMix; rfl
  rw [e] at h
  exact h
omit hsel in
theorem mixL_of_list : ∀ (L : List Nat) (ks : List Nat) (l : List Oper), L.map kd = ks → L.map (fun i => ops[i]?) = l.map some → ∀ a w, wpMix P ops C Q ks l a w → mixL P ops C kd Q L a w
  | [], ks, l, h1, h2, a, w, h => by
    subst h1
    have : l = [] := by simpa using h2.symm
    subst this
    unfold wpMix at h
    exact h
  | i :: L, ks, l, h1, h2, a, w, h => by
    cases l with
    | nil => simp at h2
    | cons o l =>
      subst h1
      simp only [List.map_cons, List.cons.injEq] at h2
      rw [mixL]
      have e : wpMix P ops C Q (kd i :: L.map kd) (o :: l) a w = wpMix P ops C (wpMix P ops C Q (L.map kd) l) [kd i] [o] a w := by
        have e0 : ∀ K, wpMix P ops C K [] [] = K := by intro K; funext a w; unfold wpMix; rfl
        unfold wpMix
        rw [e0]
      have hm := mixAt_of_wpMix h2.1 (by rw [List.map_cons, e] at h; exact h)
      have hf : ∀ a w, wpMix P ops C Q (L.map kd) l a w → mixL P ops C kd Q L a w := fun a w hh => mixL_of_list L _ l rfl h2.2 a w hh
      rw [mixAt_some h2.1] at hm ⊢
      split
      · rename_i hw
        rw [if_pos hw] at hm
        by_cases h0 : kd i = 0
        · rw [if_pos h0] at hm ⊢; obtain ⟨v, a1, a2⟩ := hm; exact ⟨v, a1, hf _ _ a2⟩
        rw [if_neg h0] at hm ⊢
        by_cases h1 : kd i = 1
        · rw [if_pos h1] at hm ⊢; exact Oper.wp_mono (fun a w hh => ⟨hh.1, hf _ _ hh.2⟩) hm
        rw [if_neg h1] at hm ⊢
        by_cases h2 : kd i = 2
        · rw [if_pos h2] at hm ⊢; exact Oper.wp_mono (fun a w hh => hf _ _ hh) hm
        · rw [if_neg h2] at hm ⊢; obtain ⟨v, a1, a2⟩ := hm; exact ⟨v, a1, hf _ _ a2⟩
      · rename_i hw; rw [if_neg hw] at hm; exact hf _ _ hm

def wpF (P : Program) (ops : Array Oper) (C : World → Prop) (Q : Act → World → Prop) (xo : Oper) (ksT : List Nat) (lT : List Oper) : List Nat → List Oper → Act → World → Prop
  | k :: ks, o :: l, a, w => wpMix P ops C (wpF P ops C Q xo ksT lT ks l) [k] [o] a w ∧ (k = 1 → wpMix P ops C Q (1 :: k :: (ks ++ ksT)) (xo :: o :: (l ++ lT)) a w)
  | [], [], a, w => wpMix P ops C Q (1 :: ksT) (xo :: lT) a w
  | _, _, _, _ => False

omit hsel in
theorem mixAt_weak {k i : Nat} {o : Oper} {K K' : Act → World → Prop} {a : Act} {w : World} (ho : ops[i]? = some o) (hf : ∀ a w, K a w → K' a w) (hm : mixAt P ops C k i K a w) : mixAt P ops C k i K' a w := by
  rw [mixAt_some ho] at hm ⊢
  split
  · rename_i hw
    rw [if_pos hw] at hm
    by_cases h0 : k = 0
    · rw [if_pos h0] at hm ⊢; obtain ⟨v, a1, a2⟩ := hm; exact ⟨v, a1, hf _ _ a2⟩
    rw [if_neg h0] at hm ⊢
    by_cases h1 : k = 1
    · rw [if_pos h1] at hm ⊢; exact Oper.wp_mono (fun a w hh => ⟨hh.1, hf _ _ hh.2⟩) hm
    rw [if_neg h1] at hm ⊢
    by_cases h2 : k = 2
    · rw [if_pos h2] at hm ⊢; exact Oper.wp_mono (fun a w hh => hf _ _ hh) hm
    · rw [if_neg h2] at hm ⊢; obtain ⟨v, a1, a2⟩ := hm; exact ⟨v, a1, hf _ _ a2⟩
  · rename_i hw; rw [if_neg hw] at hm; exact hf _ _ hm

omit hsel in
theorem mixF_of_wpF {xo : Oper} (hxo : ops[x]? = some xo) (hkx : kd x = 1) (LT : List Nat) (lT : List Oper) (hLT : LT.map (fun i => ops[i]?) = lT.map some) :
    ∀ (L : List Nat) (ks : List Nat) (l : List Oper), x ∉ L → L.map kd = ks → L.map (fun i => ops[i]?) = l.map some → ∀ a w, wpF P ops C Q xo (LT.map kd) lT ks l a w → mixF P ops C kd Q x (L ++ x :: LT) a w
  | [], ks, l, _, h1, h2, a, w, h => by
    subst h1
    have : l = [] := by simpa using h2.symm
    subst this
    simp only [wpF, List.map_nil] at h
    rw [List.nil_append, mixF_at]
    have := mixL_of_list (kd := kd) (x :: LT) (1 :: LT.map kd) (xo :: lT) (by simp [hkx]) (by simp [hxo, hLT]) a w h
    rw [mixL] at this
    exact this
  | i :: L, ks, l, hn, h1, h2, a, w, h => by
    cases l with
    | nil => simp at h2
    | cons o l =>
      subst h1
      have h2' := h2
      simp only [List.map_cons, List.cons.injEq] at h2
      rw [List.map_cons, wpF] at h
      have hix : i ≠ x := fun e => hn (by simp [e])
      have hnL : x ∉ L := fun e => hn (by simp [e])
      have ha := mixAt_weak h2.1 (fun a w hh => mixF_of_wpF hxo hkx LT lT hLT L _ l hnL rfl h2.2 a w hh) (mixAt_of_wpMix h2.1 h.1)
      rw [List.cons_append]
      by_cases k1 : kd i = 1
      · rw [mixF_chg hix k1 (by simp)]
        refine ⟨ha, ?_⟩
        rw [List.erase_append_right _ hnL, List.erase_cons_head]
        have := mixL_of_list (kd := kd) (x :: i :: (L ++ LT)) (1 :: kd i :: (L.map kd ++ LT.map kd)) (xo :: o :: (l ++ lT)) (by simp [hkx]) (by simp [hxo, h2.1, h2.2, hLT]) a w (h.2 k1)
        rw [mixL] at this
        exact this
      · rw [mixF_else hix (fun e => k1 e.1)]
        exact ha
end

def xB (md : Region.Mode) (ops : Array Oper) (ks : List Nat) (x : Nat) (ox : Oper) : Nat → List Oper → Bool
  | _, [] => true
  | i, o :: l => (i == x || (ks.getD i 0 == 1 && decide (i < x)) || (decide (x < i) && o.after.toList.any (fun e => Region.binds md e && e.on == x)) ||
      (ks.getD i 0 != 1 && ks.getD i 0 != 2 && o.apart ops ox && ox.apart ops o)) && xB md ops ks x ox (i + 1) l
theorem xB_spec {md : Region.Mode} {ops : Array Oper} {ks : List Nat} {x : Nat} {ox : Oper} : ∀ (l : List Oper) (s : Nat), xB md ops ks x ox s l = true → ∀ j o, l[j]? = some o → s + j ≠ x →
    (ks.getD (s + j) 0 = 1 ∧ s + j < x) ∨ (x < s + j ∧ ∃ e ∈ o.after, Region.binds md e = true ∧ e.on = x) ∨ (ks.getD (s + j) 0 ≠ 1 ∧ ks.getD (s + j) 0 ≠ 2 ∧ o.apart ops ox = true ∧ ox.apart ops o = true)
  | [], _, _, j, o, h, _ => by simp at h
  | o' :: l, s, hB, j, o, h, hne => by
    simp only [xB, Bool.and_eq_true] at hB
    cases j with
    | zero =>
      simp at h
      subst h
      rw [Nat.add_zero] at hne ⊢
      simp only [Bool.or_eq_true, Bool.and_eq_true, beq_iff_eq, bne_iff_ne, decide_eq_true_eq, List.any_eq_true] at hB
      rcases hB.1 with ((h1 | h1) | h1) | h1
      · exact absurd h1 hne
      · exact .inl h1
      · obtain ⟨h1, e, he, h2, h3⟩ := h1
        exact .inr (.inl ⟨h1, e, by simpa using he, h2, h3⟩)
      · exact .inr (.inr ⟨h1.1.1.1, h1.1.1.2, h1.1.2, h1.2⟩)
    | succ j =>
      have := xB_spec l (s + 1) hB.2 j o (by simpa using h) (by omega)
      rwa [show s + 1 + j = s + (j + 1) by omega] at this

def mixFB (ops : Array Oper) (x : Nat) (ks : List Nat) : Bool :=
  match ops[x]? with
  | none => false
  | some ox => Region.noSelect ops && goB .any ops ops.toList (ks.set x 0) [] [] false && (ks.getD x 0 == 1) && xB .any ops ks x ox 0 ops.toList

theorem wp_region_mixF {P : Program} {id : Nat} {Q' : Exit → Act → World → Prop} {a : Act} {w : World} {l : List Oper} (x : Nat) (ks : List Nat) (C : World → Prop) (hm : P.follows .mixedOrders = true) (hB : mixFB l.toArray x ks = true) (hC : C w.drew)
    (xo : Oper) (post : List Oper) (hd : l.drop x = xo :: post)
    (h : wpF P l.toArray C (fun a w => Q' .normal a w) xo (ks.drop (x + 1)) post (ks.take x) (l.take x) a w.drew) : (Code.region id l.toArray true).wp P Q' a w := by
  have hxl : l[x]? = some xo := by rw [← List.head?_drop, hd]; rfl
  have hxlt : x < l.length := (List.getElem?_eq_some_iff.1 hxl).1
  have hxo : l.toArray[x]? = some xo := by simpa using hxl
  simp only [mixFB, hxo, Bool.and_eq_true, beq_iff_eq] at hB
  obtain ⟨⟨⟨hsel, hgo⟩, hkx⟩, hxB⟩ := hB
  obtain ⟨hlen, m', t', hG⟩ := goB_spec (ops := l.toArray) l (ks.set x 0) [] [] false (by simp) Good.nil (by simpa using hgo)
  rw [List.nil_append] at hG
  have hlen' : ks.length = l.length := by simpa using hlen
  have hat : ∀ (i : Nat) (o : Oper), i ≠ x → l[i]? = some o → (l.zip (ks.set x 0))[i]? = some (o, ks.getD i 0) := by
    intro i o hne ho
    obtain ⟨hi, rfl⟩ := List.getElem?_eq_some_iff.1 ho
    simp [hlen', hi, Ne.symm hne]
  have hatx : ∀ (i : Nat) (o : Oper), l[i]? = some o → ∃ k, (l.zip (ks.set x 0))[i]? = some (o, k) := by
    intro i o ho
    obtain ⟨hi, rfl⟩ := List.getElem?_eq_some_iff.1 ho
    exact ⟨(ks.set x 0)[i]'(by simp; omega), by simp [hlen', hi]⟩
  have hkn : ∀ i : Nat, i < l.length → ∃ o, l[i]? = some o := fun i hi => ⟨l[i], by simp [hi]⟩
  have hX : ∀ i oi, l.toArray[i]? = some oi → i ≠ x → (ks.getD i 0 = 1 ∧ i < x) ∨ (x < i ∧ Needs .any l.toArray i x) ∨ (ks.getD i 0 ≠ 1 ∧ ks.getD i 0 ≠ 2 ∧ oi.apart l.toArray xo = true ∧ xo.apart l.toArray oi = true) := by
    intro i oi hoi hne
    have hs := xB_spec l 0 (by simpa using hxB) i oi (by simpa using hoi) (by omega)
    rw [Nat.zero_add] at hs
    rcases hs with h1 | ⟨h1, e, he, hb, hon⟩ | h1
    · exact .inl h1
    · refine .inr (.inl ⟨h1, fun listed _ hall => ?_⟩)
      have := hall oi hoi e he hb
      rw [hon] at this
      exact this
    · exact .inr (.inr h1)
  refine wp_region_any hm ?_
  refine wpAny_of_mixF (x := x) (C := C) (kd := fun i => ks.getD i 0) (Q := fun a w => Q' .normal a w) (md := .any) (Region.noSelect_spec hsel) hxo hkx ?_ ?_ hX ?_ (fun _ _ h => h) l.toArray.size (List.range l.length) _ a _ (by simp) (by simp) ?_ List.pairwise_lt_range ?_ (fun _ => hC) ?_
  · intro i o ho
    obtain ⟨k, hk⟩ := hatx i o (by simpa using ho)
    exact hG.low i o k hk
  · intro i j oi oj hji hix hjx hi hj
    exact hG.pair i j oi oj _ _ hji (hat i oi hix (by simpa using hi)) (hat j oj hjx (by simpa using hj))
  · intro i j hji hi hk
    obtain ⟨oi, hoi⟩ := hkn i (by simpa using hi)
    obtain ⟨oj, hoj⟩ := hkn j (by simp at hi; omega)
    have hjx : j ≠ x := by intro e; rw [e] at hk; have hk' : ks.getD x 0 = 2 := hk; omega
    by_cases hix : i = x
    · exfalso
      rcases hX j oj (by simpa using hoj) hjx with h1 | h1 | h1
      · have hk' : ks.getD j 0 = 2 := hk; omega
      · omega
      · exact h1.2.1 hk
    · exact hG.tail_ i j oi oj _ _ hji (hat i oi hix hoi) (hat j oj hjx hoj) hk
  · intro j
    simp only [List.mem_range, List.size_toArray]
    constructor
    · intro hj; refine ⟨hj, ?_⟩; simp [Array.getD, hj]
    · exact fun h => h.1
  · intro k ok hk hl
    simp [Array.getD] at hl
  · have eL : List.range l.length = List.range x ++ x :: (List.range' (x + 1) (l.length - x - 1)) := by
      rw [List.range_eq_range', List.range_eq_range', show l.length = x + (l.length - x) by omega, ← List.range'_append_1, Nat.zero_add]
      congr 1
      rw [show l.length - x = (l.length - x - 1) + 1 by omega, List.range'_succ]
      congr 2 <;> omega
    rw [eL]
    have hpost : post = l.drop (x + 1) := by
      have := congrArg List.tail hd
      simpa using this.symm
    have ek : (List.range' (x + 1) (l.length - x - 1)).map (fun i => ks.getD i 0) = ks.drop (x + 1) := by
      apply List.ext_getElem
      · simp; omega
      · intro j h1 h2
        have hh : x + 1 + j < ks.length := by simp at h2; omega
        simp [hh]
    refine mixF_of_wpF (kd := fun i => ks.getD i 0) hxo hkx (List.range' (x + 1) (l.length - x - 1)) post ?_ (List.range x) (ks.take x) (l.take x) (by simp) ?_ ?_ a w.drew (by rw [ek]; exact h)
    · rw [hpost]
      apply List.ext_getElem
      · simp; omega
      · intro j h1 h2
        have hh : x + 1 + j < l.length := by simp at h2; omega
        simp [hh]
    · apply List.ext_getElem
      · simp; omega
      · intro j h1 h2
        have hh : j < ks.length := by simp at h1; omega
        simp [hh]
    · apply List.ext_getElem
      · simp; omega
      · intro j h1 h2
        have hh : j < l.length := by simp at h1; omega
        simp [hh]

section
variable {P : Program} {ops : Array Oper} {C : World → Prop} {Q : Act → World → Prop} {xo : Oper} {ksT ks : List Nat} {lT l : List Oper} {a : Act} {w : World} {o : Oper}
theorem wpF_nil (h : wpMix P ops C Q (1 :: ksT) (xo :: lT) a w) : wpF P ops C Q xo ksT lT [] [] a w := h
theorem wpF_0 (h : wpMix P ops C (wpF P ops C Q xo ksT lT ks l) [0] [o] a w) : wpF P ops C Q xo ksT lT (0 :: ks) (o :: l) a w := ⟨h, fun h => absurd h (by decide)⟩
theorem wpF_3 (h : wpMix P ops C (wpF P ops C Q xo ksT lT ks l) [3] [o] a w) : wpF P ops C Q xo ksT lT (3 :: ks) (o :: l) a w := ⟨h, fun h => absurd h (by decide)⟩
theorem wpF_1 (h : wpMix P ops C Q (1 :: 1 :: (ks ++ ksT)) (xo :: o :: (l ++ lT)) a w) (h' : wpMix P ops C (wpF P ops C Q xo ksT lT ks l) [1] [o] a w) : wpF P ops C Q xo ksT lT (1 :: ks) (o :: l) a w := ⟨h', fun _ => h⟩
end
attribute [irreducible] wpF
end Mix
end Go.Proofs.Ytcbcjhfeidkeaaa
