/-
  The same, where the allocation stands in the text AHEAD of calls that no edge orders against it: it is walked behind the operation y.
-/
import Derived.Test.YtecpbgmcednpoaaMixF
namespace Go.Proofs.Ytecpbgmcednpoaa
namespace Mix
section
variable {P : Program} {ops : Array Oper} {C : World → Prop} {kd : Nat → Nat} {Q : Act → World → Prop} {x : Nat}
variable (hsel : ∀ (j : Nat) (o : Oper) cs b, ops[j]? = some o → o.op ≠ .select cs b)
include hsel

/-- another operation first -/
theorem mixR_bubble {ox : Oper} (hx : ops[x]? = some ox) (hkx : kd x = 1) {i : Nat} {oi : Oper} (hi : ops[i]? = some oi) (hix : i ≠ x) (L2 : List Nat) :
    ∀ (L1 : List Nat) (a : Act) (w : World),
      (x ∈ L1 ++ i :: L2 → kd i ≠ 1 → kd i ≠ 2 → (oi.apart ops ox = true ∧ okPair (kd i) (kd x) = true) ∨ ∀ j ∈ L1, kd j ≠ 1) →
      (∀ j ∈ L1, ∃ oj, ops[j]? = some oj ∧ oi.apart ops oj = true ∧ okPair (kd i) (kd j) = true) →
      (∀ A j B, L1 ++ i :: L2 = A ++ j :: B → kd j = 2 → ¬ leans kd B) →
      (leans kd (L1 ++ i :: L2) → C w) → mixF P ops C kd Q x (L1 ++ i :: L2) a w → mixAt P ops C (kd i) i (mixF P ops C kd Q x (L1 ++ L2)) a w
  | [], a, w, _, _, _, _, h => mixF_first hix a w h
  | j :: L1, a, w, hax, hap, htail, hC, h => by
    obtain ⟨oj, hj, hjap, hok⟩ := hap j (by simp)
    have hin : kd i ≠ 0 → kd i ≠ 2 → leans kd (j :: L1 ++ i :: L2) := fun h0 h2 => ⟨i, by simp, h0, h2⟩
    have hstep : ∀ (_ : Act) (w' : World), (kd j = 1 → C w') → (kd j ≠ 1 → kd j ≠ 2 → w' = w) → leans kd (L1 ++ i :: L2) → C w' := by
      intro a' w' h1 hs hl
      by_cases k1 : kd j = 1
      · exact h1 k1
      by_cases k2 : kd j = 2
      · exact absurd hl (htail [] j (L1 ++ i :: L2) rfl k2)
      · rw [hs k1 k2]; obtain ⟨y, hy, hy'⟩ := hl; exact hC ⟨y, by simp only [List.cons_append, List.mem_cons]; exact .inr hy, hy'⟩
    have htail' : ∀ A j' B, L1 ++ i :: L2 = A ++ j' :: B → kd j' = 2 → ¬ leans kd B := fun A j' B he => htail (j :: A) j' B (by simp [he])
    have hap' : ∀ j' ∈ L1, ∃ oj, ops[j']? = some oj ∧ oi.apart ops oj = true ∧ okPair (kd i) (kd j') = true := fun j' hj' => hap j' (by simp [hj'])
    have hsw := fun {K : Act → World → Prop} (hm : mixAt P ops C (kd j) j (mixAt P ops C (kd i) i K) a w) =>
      mixAt_swap hi hj hjap (fun cs b => hsel i oi cs b hi) (fun cs b => hsel j oj cs b hj) hok (fun h0 _ h2 => hC (hin h0 h2)) (fun h1 => hC (hin (by omega) (by omega))) hm
    have hjC : kd j = 1 → C w := fun hj1 => hC ⟨j, by simp, by omega, by omega⟩
    rw [List.cons_append] at h
    by_cases hjx : j = x
    · subst hjx
      rw [mixF_at] at h
      have hm : mixAt P ops C (kd j) j (mixAt P ops C (kd i) i (mixL P ops C kd Q (L1 ++ L2))) a w := by
        refine mixAt_mono (fun a' w' h1 hs hk => ?_) (by rw [hj]; simp) h hjC
        exact mixL_bubble hsel hi L2 L1 a' w' hap' htail' (hstep a' w' h1 hs) hk
      have := hsw hm
      rw [List.cons_append]
      have e : mixF P ops C kd Q j (j :: (L1 ++ L2)) = mixAt P ops C (kd j) j (mixL P ops C kd Q (L1 ++ L2)) := by funext a w; exact mixF_at _ a w
      rw [e]; exact this
    · have hmem : x ∈ L1 ++ i :: L2 ↔ x ∈ L1 ++ L2 := by simp [Ne.symm hix]
      have hmain : mixAt P ops C (kd j) j (mixF P ops C kd Q x (L1 ++ i :: L2)) a w → mixAt P ops C (kd i) i (mixAt P ops C (kd j) j (mixF P ops C kd Q x (L1 ++ L2))) a w := by
        intro hh
        refine hsw (mixAt_mono (fun a' w' h1 hs hk => ?_) (by rw [hj]; simp) hh hjC)
        exact mixR_bubble hx hkx hi hix L2 L1 a' w' (fun hm q1 q2 => (hax (by simp only [List.cons_append, List.mem_cons]; exact .inr hm) q1 q2).imp id fun hh j' hj' => hh j' (by simp [hj'])) hap' htail' (hstep a' w' h1 hs) hk
      by_cases hcase : kd j = 1 ∧ x ∈ L1 ++ i :: L2
      · rw [mixF_chg hjx hcase.1 hcase.2] at h
        have k1 : kd i ≠ 1 := by intro e; rw [e, hcase.1] at hok; simp [okPair] at hok
        have k2 : kd i ≠ 2 := by intro e; rw [e, hcase.1] at hok; simp [okPair] at hok
        have hcw := hjC hcase.1
        obtain ⟨hax1, hax2⟩ := (hax (by simp only [List.cons_append, List.mem_cons]; exact .inr hcase.2) k1 k2).resolve_right fun hh => hh j (by simp) hcase.1
        have h1 := hmain h.1
        have h2 : mixAt P ops C (kd i) i (mixAt P ops C (kd x) x (mixL P ops C kd Q (j :: (L1 ++ L2).erase x))) a w := by
          have hb := h.2
          have hx1 : ∀ (M1 M2 : List Nat), (∀ y ∈ M1, y ∈ L1) → mixAt P ops C (kd x) x (mixL P ops C kd Q (j :: (M1 ++ i :: M2))) a w → (∀ A j' B, j :: (M1 ++ i :: M2) = A ++ j' :: B → kd j' = 2 → ¬ leans kd B) →
              mixAt P ops C (kd i) i (mixAt P ops C (kd x) x (mixL P ops C kd Q (j :: (M1 ++ M2)))) a w := by
            intro M1 M2 hsub hh ht
            have hm : mixAt P ops C (kd x) x (mixAt P ops C (kd i) i (mixL P ops C kd Q (j :: (M1 ++ M2)))) a w := by
              refine mixAt_mono (fun a' w' h1 hs hk => ?_) (by rw [hx]; simp) hh (fun _ => hcw)
              refine mixL_bubble hsel hi M2 (j :: M1) a' w' (fun j' hj' => ?_) ht (fun _ => h1 hkx) hk
              rcases List.mem_cons.1 hj' with rfl | hj'
              · exact ⟨oj, hj, hjap, hok⟩
              · exact hap' j' (hsub j' hj')
            exact mixAt_swap hi hx hax1 (fun cs b => hsel i oi cs b hi) (fun cs b => hsel x ox cs b hx) hax2 (fun _ _ _ => hcw) (fun e => absurd e k1) hm
          have tl : ∀ (M : List Nat), List.Sublist M (L1 ++ i :: L2) → ∀ A j' B, j :: M = A ++ j' :: B → kd j' = 2 → ¬ leans kd B := by
            intro M hM A j' B he hk2 hl
            have hs : List.Sublist (A ++ j' :: B) (j :: (L1 ++ i :: L2)) := by rw [← he]; exact hM.cons_cons j
            obtain ⟨l1, l2, e, s1, s2⟩ := List.append_sublist_iff.1 hs
            obtain ⟨r1, r2, e2, s3, s4⟩ := List.cons_sublist_iff.1 s2
            obtain ⟨c1, c2, rfl⟩ := List.append_of_mem s3
            refine htail (l1 ++ c1) j' (c2 ++ r2) (by rw [List.cons_append, e, e2]; simp) hk2 ?_
            obtain ⟨y, hy, hy'⟩ := hl
            exact ⟨y, by simp only [List.mem_append]; exact .inr (s4.subset hy), hy'⟩
          by_cases hx1m : x ∈ L1
          · rw [List.erase_append_left _ hx1m] at hb ⊢
            exact hx1 (L1.erase x) L2 (fun y hy => List.mem_of_mem_erase hy) hb (tl _ (List.Sublist.append List.erase_sublist (List.Sublist.refl _)))
          · rw [List.erase_append_right _ hx1m, List.erase_cons_tail (by simp [hix])] at hb
            rw [List.erase_append_right _ hx1m]
            exact hx1 L1 (L2.erase x) (fun y hy => hy) hb (tl _ (List.Sublist.append (List.Sublist.refl _) (List.erase_sublist.cons_cons i)))
        have h3 := mixAt_and k1 k2 (fun _ => hcw) h1 h2
        refine mixAt_mono (fun a' w' _ _ hk => ?_) (by rw [hi]; simp) h3 (fun e => absurd e k1)
        rw [List.cons_append, mixF_chg hjx hcase.1 (hmem.1 hcase.2)]
        exact hk
      · rw [mixF_else hjx hcase] at h
        have e : mixF P ops C kd Q x (j :: (L1 ++ L2)) = mixAt P ops C (kd j) j (mixF P ops C kd Q x (L1 ++ L2)) := by
          funext a w; exact mixF_else hjx (fun e => hcase ⟨e.1, hmem.2 e.2⟩) a w
        rw [List.cons_append, e]
        exact hmain h

theorem wpAny_of_mixR (r : Nat → Nat) {md : Region.Mode} {Q' : Exit → Act → World → Prop} {ox : Oper} (hxo : ops[x]? = some ox) (hkx : kd x = 1)
    (hlow : ∀ i o, ops[i]? = some o → ∀ e ∈ o.after, Region.binds md e = true → e.on < ops.size ∧ r e.on < r i)
    (hpair : ∀ i j oi oj, r j < r i → i ≠ x → j ≠ x → ops[i]? = some oi → ops[j]? = some oj → Needs md ops i j ∨ (oi.apart ops oj = true ∧ okPair (kd i) (kd j) = true))
    (hx : ∀ i oi, ops[i]? = some oi → i ≠ x → (kd i = 1 ∧ r i < r x) ∨ (r x < r i ∧ Needs md ops i x) ∨ (kd i ≠ 1 ∧ kd i ≠ 2 ∧ oi.apart ops ox = true ∧ ox.apart ops oi = true) ∨ (r i < r x ∧ Needs md ops x i ∧ kd i ≠ 1 ∧ kd i ≠ 2 ∧ ∀ j, r j < r i → kd j ≠ 1))
    (htail : ∀ i j, r j < r i → i < ops.size → kd j = 2 → kd i = 0 ∨ kd i = 2)
    (hfin : ∀ a w, Q a w → Q' .normal a w) : ∀ (n : Nat) (L : List Nat) (listed : Array Bool) (a : Act) (w : World), L.length = n → listed.size = ops.size → (∀ j, j ∈ L ↔ j < ops.size ∧ listed.getD j true = false) → L.Pairwise (fun a b => r a < r b) →
      Closed md ops listed → (leans kd L → C w) → mixF P ops C kd Q x L a w → wpAny P md ops Q' n listed a w := by
  have okx : ∀ k, k ≠ 1 → k ≠ 2 → okPair k 1 = true ∧ okPair 1 k = true := by
    intro k h1 h2; simp [okPair, h1, h2]
  intro n
  induction n with
  | zero =>
    intro L listed a w hn _ hL _ _ _ h
    have hL0 : L = [] := List.eq_nil_of_length_eq_zero hn
    subst hL0
    refine ⟨?_, hfin _ _ h⟩
    apply List.eq_nil_iff_forall_not_mem.2
    intro i hi
    obtain ⟨h0, o, ho, _⟩ := mem_ready.1 hi
    have := (hL i).2 ⟨(Array.getElem?_eq_some_iff.1 ho).1, h0⟩
    cases this
  | succ n ih =>
    intro L listed a w hn hsz hL hsort hcl hC h
    refine ⟨fun hr => ?_, fun i hi => ?_⟩
    · exfalso
      cases L with
      | nil => simp at hn
      | cons i0 L =>
        obtain ⟨hlt, hun⟩ := (hL i0).1 (by simp)
        have : i0 ∈ Region.ready md ops listed := by
          refine mem_ready.2 ⟨hun, ops[i0], by simp [hlt], fun e he hb => ?_⟩
          obtain ⟨hon1, hon⟩ := hlow i0 ops[i0] (by simp [hlt]) e he hb
          refine getD_ft (by omega) fun hf => ?_
          have hm := (hL e.on).2 ⟨by omega, hf⟩
          rcases List.mem_cons.1 hm with hm | hm
          · rw [hm] at hon; omega
          · have := (List.pairwise_cons.1 hsort).1 _ hm; omega
        rw [hr] at this
        cases this
    · obtain ⟨hun, oi, hoi, hall⟩ := mem_ready.1 hi
      have hilt : i < ops.size := (Array.getElem?_eq_some_iff.1 hoi).1
      have him : i ∈ L := (hL i).2 ⟨hilt, hun⟩
      obtain ⟨L1, L2, rfl⟩ := List.append_of_mem him
      have hs := List.pairwise_append.1 hsort
      have hs2 := List.pairwise_cons.1 hs.2.1
      have hni : i ∉ L1 ++ L2 := by
        intro hm
        rcases List.mem_append.1 hm with hj | hj
        · exact absurd (hs.2.2 i hj i (by simp)) (by omega)
        · exact absurd (hs2.1 i hj) (by omega)
      have hb : mixAt P ops C (kd i) i (mixF P ops C kd Q x (L1 ++ L2)) a w := by
        by_cases hix : i = x
        · subst hix
          have hA := mixF_alloc hsel hxo hkx L2 L1 a w (fun hm => hni (by simp [hm])) (fun j hj => ?_) (hC ⟨i, him, by omega, by omega⟩) h
          · rw [mixF_none _ hni]; exact hA
          · have hjm := (hL j).1 (by simp [hj])
            have hjlt := hs.2.2 j hj i (by simp)
            rcases hx j ops[j] (by simp [hjm.1]) (fun e => by rw [e] at hjlt; omega) with h1 | h2 | ⟨k1, k2, _, h4⟩ | ⟨_, hN, _⟩
            · exact .inl h1.1
            · omega
            · exact .inr ⟨k2, ops[j], by simp [hjm.1], h4, by rw [hkx]; exact (okx _ k1 k2).2⟩
            · exact absurd hjm.2 (getD_tf (by omega) (hN.ready hcl hi))
        · refine mixR_bubble hsel hxo hkx hoi hix L2 L1 a w (fun hxm k1 k2 => ?_) (fun j hj => ?_) (fun A j B he hj2 => ?_) hC h
          · rcases hx i oi hoi hix with h1 | h2 | ⟨_, _, h3, _⟩ | ⟨_, _, _, _, h3⟩
            · exact absurd h1.1 k1
            · exact absurd ((hL x).1 hxm).2 (getD_tf (by have := ((hL x).1 hxm).1; omega) (h2.2.ready hcl hi))
            · exact .inl ⟨h3, by rw [hkx]; exact (okx _ k1 k2).1⟩
            · exact .inr fun j hj => h3 j (hs.2.2 j hj i (by simp))
          · have hjm := (hL j).1 (by simp [hj])
            have hjlt := hs.2.2 j hj i (by simp)
            refine ⟨ops[j], by simp [hjm.1], ?_⟩
            by_cases hjx : j = x
            · subst hjx
              have hoj : ops[j] = ox := by have := hxo; simp [hjm.1] at this; exact this
              rw [hoj]
              rcases hx i oi hoi hix with h1 | h2 | ⟨k1, k2, h3, _⟩ | ⟨h4, _⟩
              · omega
              · exact absurd hjm.2 (getD_tf (by omega) (h2.2.ready hcl hi))
              · exact ⟨h3, by rw [hkx]; exact (okx _ k1 k2).1⟩
              · omega
            · rcases hpair i j oi ops[j] hjlt hix hjx hoi (by simp [hjm.1]) with hN | hok
              · exact absurd hjm.2 (getD_tf (by omega) (hN.ready hcl hi))
              · exact hok
          · rintro ⟨y, hy, hy0, hy2⟩
            have hso := hsort
            rw [he] at hso
            have hjy := (List.pairwise_cons.1 (List.pairwise_append.1 hso).2.1).1 y hy
            have hym := (hL y).1 (by rw [he]; simp [hy])
            rcases htail y j hjy hym.1 hj2 with hz | hz
            · exact hy0 hz
            · exact hy2 hz
      refine wpOp_of_mixAt hoi (fun a' w' h1 hsame hk => ?_) (fun h0 h2 => hC ⟨i, him, h0, h2⟩) hb
      refine ih (L1 ++ L2) _ a' w' (by simp at hn ⊢; omega) (by simp [hsz]) (fun j => ?_) ?_ ?_ (fun hl => ?_) hk
      · have hji := hL j
        simp only [List.mem_append, List.mem_cons] at hji ⊢
        by_cases hj : j = i
        · subst hj
          constructor
          · intro hj; exact absurd (List.mem_append.2 hj) hni
          · rintro ⟨_, hx⟩
            exfalso
            simp [Array.getD, hsz, hilt] at hx
        · rw [getD_set_ne true (Ne.symm hj)]
          constructor
          · intro hx; exact hji.1 (by rcases hx with hx | hx <;> simp [hx])
          · intro hx; rcases hji.2 hx with hx | hx | hx
            · exact .inl hx
            · exact absurd hx hj
            · exact .inr hx
      · exact List.pairwise_append.2 ⟨hs.1, hs2.2, fun x hx y hy => hs.2.2 x hx y (by simp [hy])⟩
      · intro k ok hk hlk e he hbd
        by_cases hki : k = i
        · subst hki
          have : ok = oi := Option.some.inj (hk.symm.trans hoi)
          subst this
          exact getD_set_true (hall e he hbd)
        · rw [getD_set_ne false (Ne.symm hki)] at hlk
          exact getD_set_true (hcl k ok hk hlk e he hbd)
      · by_cases k1 : kd i = 1
        · exact h1 k1
        by_cases k2 : kd i = 2
        · exfalso
          obtain ⟨y, hy, hy0, hy2⟩ := hl
          rcases List.mem_append.1 hy with hy | hy
          · have hylt := hs.2.2 y hy i (by simp)
            have hym := (hL y).1 (by simp [hy])
            have hix : i ≠ x := by intro e; rw [e, hkx] at k2; omega
            by_cases hyx : y = x
            · subst hyx
              rcases hx i oi hoi hix with h1 | h2 | ⟨_, h3, _⟩ | ⟨_, _, _, h3, _⟩
              · omega
              · exact getD_tf (by omega) (h2.2.ready hcl hi) hym.2
              · exact h3 k2
              · exact h3 k2
            · rcases hpair i y oi ops[y] hylt hix hyx hoi (by simp [hym.1]) with hN | ⟨_, hok⟩
              · exact getD_tf (by omega) (hN.ready hcl hi) hym.2
              · simp [okPair, k2] at hok; omega
          · have hylt := hs2.1 y hy
            have hym := (hL y).1 (by simp [hy])
            rcases htail y i hylt hym.1 k2 with hz | hz
            · exact hy0 hz
            · exact hy2 hz
        · rw [hsame k1 k2]
          obtain ⟨y, hy, hy'⟩ := hl
          exact hC ⟨y, by rcases List.mem_append.1 hy with hy | hy <;> simp [hy], hy'⟩
end

/-- x's place is behind y -/
def rankG (x y i : Nat) : Nat := if i = x then 2 * y + 1 else 2 * i
/-- an operation needs x, by edges over others -/
def reachX (md : Region.Mode) (ops : Array Oper) (x : Nat) : Nat → Nat → Bool
  | 0, _ => false
  | f + 1, i => match ops[i]? with
    | none => false
    | some o => o.after.toList.any fun e => Region.binds md e && (e.on == x || reachX md ops x f e.on)
theorem reachX_spec {md : Region.Mode} {ops : Array Oper} {x : Nat} {listed : Array Bool} (hcl : Closed md ops listed) : ∀ (f i : Nat), (∀ o, ops[i]? = some o → ∀ e ∈ o.after, Region.binds md e = true → listed.getD e.on false = true) → reachX md ops x f i = true → listed.getD x false = true
  | 0, i, _, h => by cases h
  | f + 1, i, hall, h => by
    rw [reachX] at h
    cases ho : ops[i]? with
    | none => rw [ho] at h; cases h
    | some o =>
      rw [ho] at h
      simp only [List.any_eq_true, Bool.and_eq_true, Bool.or_eq_true, beq_iff_eq] at h
      obtain ⟨e, he, hb, hx⟩ := h
      have h1 := hall o ho e (by simpa using he) hb
      rcases hx with hx | hx
      · rw [hx] at h1; exact h1
      · exact reachX_spec hcl f e.on (fun o' ho' e' he' hb' => hcl e.on o' ho' h1 e' he' hb') hx
def xG (md : Region.Mode) (ops : Array Oper) (ks : List Nat) (x y : Nat) (ox : Oper) : Nat → List Oper → Bool
  | _, [] => true
  | i, o :: l => (i == x || (ks.getD i 0 == 1 && decide (i ≤ y)) || (decide (y < i) && reachX md ops x 4 i) ||
      (ks.getD i 0 != 1 && ks.getD i 0 != 2 && o.apart ops ox && ox.apart ops o) ||
      (decide (i < x) && ox.after.toList.any (fun e => Region.binds md e && e.on == i) && ks.getD i 0 != 1 && ks.getD i 0 != 2 && (ks.take i).all (fun k => k != 1))) && (decide (y < i) || (ks.getD i 0 != 2 && o.after.toList.all (fun e => !(Region.binds md e && e.on == x)))) && xG md ops ks x y ox (i + 1) l
theorem xG_spec {md : Region.Mode} {ops : Array Oper} {ks : List Nat} {x y : Nat} {ox : Oper} : ∀ (l : List Oper) (s : Nat), xG md ops ks x y ox s l = true → ∀ j o, l[j]? = some o →
    (s + j ≠ x → (ks.getD (s + j) 0 = 1 ∧ s + j ≤ y) ∨ (y < s + j ∧ reachX md ops x 4 (s + j) = true) ∨ (ks.getD (s + j) 0 ≠ 1 ∧ ks.getD (s + j) 0 ≠ 2 ∧ o.apart ops ox = true ∧ ox.apart ops o = true) ∨
      (s + j < x ∧ (∃ e ∈ ox.after, Region.binds md e = true ∧ e.on = s + j) ∧ ks.getD (s + j) 0 ≠ 1 ∧ ks.getD (s + j) 0 ≠ 2 ∧ ∀ p, p < s + j → ks.getD p 0 ≠ 1)) ∧
    (s + j ≤ y → ks.getD (s + j) 0 ≠ 2 ∧ ∀ e ∈ o.after, Region.binds md e = true → e.on ≠ x)
  | [], _, _, j, o, h => by simp at h
  | o' :: l, s, hB, j, o, h => by
    simp only [xG, Bool.and_eq_true] at hB
    cases j with
    | zero =>
      simp at h
      subst h
      rw [Nat.add_zero]
      refine ⟨fun hne => ?_, fun hle => ?_⟩
      · have h1 := hB.1.1
        simp only [Bool.or_eq_true, Bool.and_eq_true, beq_iff_eq, bne_iff_ne, decide_eq_true_eq, List.any_eq_true] at h1
        rcases h1 with (((h1 | h1) | h1) | h1) | h1
        · exact absurd h1 hne
        · exact .inl h1
        · exact .inr (.inl h1)
        · exact .inr (.inr (.inl ⟨h1.1.1.1, h1.1.1.2, h1.1.2, h1.2⟩))
        · obtain ⟨⟨⟨⟨h1, e, he, h2, h3⟩, h4⟩, h5⟩, h6⟩ := h1
          refine .inr (.inr (.inr ⟨h1, ⟨e, by simpa using he, h2, h3⟩, h4, h5, fun p hp => ?_⟩))
          rw [List.all_eq_true] at h6
          rcases Nat.lt_or_ge p ks.length with h7 | h7
          · have h8 := h6 ks[p] (List.mem_iff_getElem?.2 ⟨p, by rw [List.getElem?_take, if_pos hp, List.getElem?_eq_getElem h7]⟩)
            rw [List.getD_eq_getElem?_getD, List.getElem?_eq_getElem h7]; simpa using h8
          · rw [List.getD_eq_getElem?_getD, List.getElem?_eq_none h7]; simp
      · have h1 := hB.1.2
        simp only [Bool.or_eq_true, Bool.and_eq_true, bne_iff_ne, decide_eq_true_eq, List.all_eq_true] at h1
        rcases h1 with h1 | ⟨h1, h2⟩
        · omega
        · refine ⟨h1, fun e he hb hx => ?_⟩
          have := h2 e (by simpa using he)
          simp [hb, hx] at this
    | succ j =>
      have := xG_spec l (s + 1) hB.2 j o (by simpa using h)
      rwa [show s + 1 + j = s + (j + 1) by omega] at this

def mixGB (ops : Array Oper) (x y : Nat) (ks : List Nat) : Bool :=
  match ops[x]? with
  | none => false
  | some ox => Region.noSelect ops && goB .any ops ops.toList (ks.set x 0) [] [] false && (ks.getD x 0 == 1) && decide (x ≤ y) && decide (y < ops.size) && xG .any ops ks x y ox 0 ops.toList

theorem wp_region_mixG {P : Program} {id : Nat} {Q' : Exit → Act → World → Prop} {a : Act} {w : World} {l : List Oper} (x y : Nat) (ks : List Nat) (C : World → Prop) (hm : P.follows .mixedOrders = true) (hB : mixGB l.toArray x y ks = true) (hC : C w.drew)
    (xo : Oper) (hd : l[x]? = some xo)
    (h : wpF P l.toArray C (fun a w => Q' .normal a w) xo (ks.drop (y + 1)) (l.drop (y + 1)) (ks.take x ++ (ks.drop (x + 1)).take (y - x)) (l.take x ++ (l.drop (x + 1)).take (y - x)) a w.drew) : (Code.region id l.toArray true).wp P Q' a w := by
  have hxo : l.toArray[x]? = some xo := by simpa using hd
  have hxlt : x < l.length := (List.getElem?_eq_some_iff.1 hd).1
  simp only [mixGB, hxo, Bool.and_eq_true, beq_iff_eq, decide_eq_true_eq] at hB
  obtain ⟨⟨⟨⟨⟨hsel, hgo⟩, hkx⟩, hxy⟩, hys⟩, hxB⟩ := hB
  have hyl : y < l.length := by simpa using hys
  obtain ⟨hlen, m', t', hG⟩ := goB_spec (ops := l.toArray) l (ks.set x 0) [] [] false (by simp) Good.nil (by simpa using hgo)
  rw [List.nil_append] at hG
  have hlen' : ks.length = l.length := by simpa using hlen
  have hat : ∀ (i : Nat) (o : Oper), i ≠ x → l[i]? = some o → (l.zip (ks.set x 0))[i]? = some (o, ks.getD i 0) := by
    intro i o hne ho
    obtain ⟨hi, rfl⟩ := List.getElem?_eq_some_iff.1 ho
    simp [hlen', hi, Ne.symm hne]
  have hatx : ∀ (i : Nat) (o : Oper), l[i]? = some o → ∃ k, (l.zip (ks.set x 0))[i]? = some (o, k) := by
    intro i o ho
    obtain ⟨hi, rfl⟩ := List.getElem?_eq_some_iff.1 ho
    exact ⟨(ks.set x 0)[i]'(by simp; omega), by simp [hlen', hi]⟩
  have hkn : ∀ i : Nat, i < l.length → ∃ o, l[i]? = some o := fun i hi => ⟨l[i], by simp [hi]⟩
  have rx : rankG x y x = 2 * y + 1 := by simp [rankG]
  have rn : ∀ i, i ≠ x → rankG x y i = 2 * i := fun i hi => by simp [rankG, hi]
  have hspec := fun (i : Nat) (oi : Oper) (hoi : l[i]? = some oi) => xG_spec l 0 (by simpa using hxB) i oi hoi
  simp only [Nat.zero_add] at hspec
  have hX : ∀ i oi, l.toArray[i]? = some oi → i ≠ x → (ks.getD i 0 = 1 ∧ rankG x y i < rankG x y x) ∨ (rankG x y x < rankG x y i ∧ Needs .any l.toArray i x) ∨ (ks.getD i 0 ≠ 1 ∧ ks.getD i 0 ≠ 2 ∧ oi.apart l.toArray xo = true ∧ xo.apart l.toArray oi = true) ∨
      (rankG x y i < rankG x y x ∧ Needs .any l.toArray x i ∧ ks.getD i 0 ≠ 1 ∧ ks.getD i 0 ≠ 2 ∧ ∀ j, rankG x y j < rankG x y i → ks.getD j 0 ≠ 1) := by
    intro i oi hoi hne
    rcases (hspec i oi (by simpa using hoi)).1 hne with ⟨h1, h2⟩ | ⟨h1, hre⟩ | h1 | ⟨h1, ⟨e, he, hb, hon⟩, h4, h5, h6⟩
    · exact .inl ⟨h1, by rw [rx, rn i hne]; omega⟩
    · exact .inr (.inl ⟨by rw [rx, rn i hne]; omega, fun listed hcl hall => reachX_spec hcl 4 i hall hre⟩)
    · exact .inr (.inr (.inl h1))
    · refine .inr (.inr (.inr ⟨by rw [rx, rn i hne]; omega, fun listed _ hall => ?_, h4, h5, fun j hj => ?_⟩))
      · have := hall xo hxo e he hb
        rw [hon] at this
        exact this
      · by_cases hjx : j = x
        · rw [hjx, rx, rn i hne] at hj; omega
        · rw [rn j hjx, rn i hne] at hj
          exact h6 j (by omega)
  refine wp_region_any hm ?_
  refine wpAny_of_mixR (x := x) (C := C) (kd := fun i => ks.getD i 0) (Q := fun a w => Q' .normal a w) (md := .any) (Region.noSelect_spec hsel) (rankG x y) hxo hkx ?_ ?_ hX ?_ (fun _ _ h => h) l.toArray.size (List.range x ++ List.range' (x + 1) (y - x) ++ x :: List.range' (y + 1) (l.length - y - 1)) _ a _ (by simp; omega) (by simp) ?_ ?_ ?_ (fun _ => hC) ?_
  · intro i o ho e he hb
    obtain ⟨k, hk⟩ := hatx i o (by simpa using ho)
    have h1 := hG.low i o k hk e he hb
    have hil := (Array.getElem?_eq_some_iff.1 ho).1
    refine ⟨by omega, ?_⟩
    by_cases hex : e.on = x
    · have : y < i := by
        rcases Nat.lt_or_ge y i with h2 | h2
        · exact h2
        · exact absurd hex (((hspec i o (by simpa using ho)).2 h2).2 e he hb)
      rw [hex, rx, rn i (by omega)]; omega
    · rw [rn _ hex]
      by_cases hix : i = x
      · rw [hix, rx]; omega
      · rw [rn _ hix]; omega
  · intro i j oi oj hji hix hjx hi hj
    rw [rn i hix, rn j hjx] at hji
    exact hG.pair i j oi oj _ _ (by omega) (hat i oi hix (by simpa using hi)) (hat j oj hjx (by simpa using hj))
  · intro i j hji hi hk
    have hi' : i < l.length := by simpa using hi
    have hjx : j ≠ x := by intro e; rw [e] at hk; have hk' : ks.getD x 0 = 2 := hk; omega
    have hkj : ks.getD j 0 = 2 := hk
    have hjl : j < l.length := by
      rcases Nat.lt_or_ge j l.length with h1 | h1
      · exact h1
      · rw [List.getD_eq_getElem?_getD, List.getElem?_eq_none (by omega)] at hkj; simp at hkj
    obtain ⟨oi, hoi⟩ := hkn i hi'
    obtain ⟨oj, hoj⟩ := hkn j hjl
    by_cases hix : i = x
    · exfalso
      rw [hix, rx, rn j hjx] at hji
      exact ((hspec j oj hoj).2 (by omega)).1 hkj
    · rw [rn i hix, rn j hjx] at hji
      exact hG.tail_ i j oi oj _ _ (by omega) (hat i oi hix hoi) (hat j oj hjx hoj) hkj
  · intro j
    simp only [List.mem_append, List.mem_cons, List.mem_range, List.mem_range'_1, List.size_toArray]
    constructor
    · intro hj
      have hjl : j < l.length := by omega
      exact ⟨hjl, by simp [Array.getD, hjl]⟩
    · intro ⟨h1, _⟩; omega
  · have hr' : ∀ a n : Nat, (x < a) → (List.range' a n).Pairwise (fun a b => rankG x y a < rankG x y b) := fun a n ha =>
      (List.pairwise_lt_range' (s := a) (n := n)).imp_of_mem fun {p q} hp hq hpq => by
        rw [List.mem_range'_1] at hp hq
        rw [rn p (by omega), rn q (by omega)]; omega
    refine List.pairwise_append.2 ⟨List.pairwise_append.2 ⟨?_, hr' _ _ (by omega), ?_⟩, List.pairwise_cons.2 ⟨?_, hr' _ _ (by omega)⟩, ?_⟩
    · exact List.pairwise_lt_range.imp_of_mem fun {p q} hp hq hpq => by
        rw [List.mem_range] at hp hq
        rw [rn p (by omega), rn q (by omega)]; omega
    · intro p hp q hq
      rw [List.mem_range] at hp; rw [List.mem_range'_1] at hq
      rw [rn p (by omega), rn q (by omega)]; omega
    · intro q hq
      rw [List.mem_range'_1] at hq
      rw [rx, rn q (by omega)]; omega
    · intro p hp q hq
      rw [List.mem_append, List.mem_range, List.mem_range'_1] at hp
      rw [rn p (by omega)]
      rcases List.mem_cons.1 hq with rfl | hq
      · rw [rx]; omega
      · rw [List.mem_range'_1] at hq
        rw [rn q (by omega)]; omega
  · intro k ok hk hl
    simp [Array.getD] at hl
  · have ek : ∀ a n : Nat, a + n ≤ ks.length → (List.range' a n).map (fun i => ks.getD i 0) = (ks.drop a).take n := by
      intro a n ha
      apply List.ext_getElem
      · simp; omega
      · intro j h1 h2
        have hh : a + j < ks.length := by simp at h1; omega
        simp [hh]
    have eo : ∀ a n : Nat, a + n ≤ l.length → (List.range' a n).map (fun i => l.toArray[i]?) = ((l.drop a).take n).map some := by
      intro a n ha
      apply List.ext_getElem
      · simp; omega
      · intro j h1 h2
        have hh : a + j < l.length := by simp at h1; omega
        simp [hh]
    have e1 : (List.range' (y + 1) (l.length - y - 1)).map (fun i => ks.getD i 0) = ks.drop (y + 1) := by
      rw [ek _ _ (by omega), List.take_of_length_le (by rw [List.length_drop]; omega)]
    refine mixF_of_wpF (kd := fun i => ks.getD i 0) hxo hkx (List.range' (y + 1) (l.length - y - 1)) (l.drop (y + 1)) ?_ (List.range x ++ List.range' (x + 1) (y - x)) (ks.take x ++ (ks.drop (x + 1)).take (y - x)) (l.take x ++ (l.drop (x + 1)).take (y - x)) ?_ ?_ ?_ a w.drew (by rw [e1]; exact h)
    · rw [eo _ _ (by omega), List.take_of_length_le (by rw [List.length_drop]; omega)]
    · simp; omega
    · rw [List.map_append, ek _ _ (by omega), List.range_eq_range', ek _ _ (by omega), List.drop_zero]
    · rw [List.map_append, eo _ _ (by omega), List.range_eq_range', eo _ _ (by omega), List.drop_zero, List.map_append]
end Mix
end Go.Proofs.Ytecpbgmcednpoaa
