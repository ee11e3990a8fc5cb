/-
  Parts of the proof, one behind the other: contracts of the functions that the law reaches, and plain laws.
-/
import Derived.Test.YtebjpmmgdkepjaaGreatDoorLot02
/-
  A region that draws its order, walked in ANY order by facts: each operation's value and memory, shown once from the facts of the operations that it needs.
-/
namespace Go.Proofs.YtebjpmmgdkepjaaGreatDoor
namespace MixA
open Go.RowKit Mix
section
variable {P : Program} {ops : Array Oper} {md : Region.Mode}

def reach (md : Region.Mode) (ops : Array Oper) : Nat → Nat → Nat → Bool
  | 0, _, _ => false
  | f + 1, i, j => match ops[i]? with
    | none => false
    | some o => o.after.toList.any fun e => Region.binds md e && (decide (e.on = j) || reach md ops f e.on j)
theorem reach_needs : ∀ {f i j : Nat}, reach md ops f i j = true → Needs md ops i j
  | 0, _, _, h => by simp [reach] at h
  | f + 1, i, j, h => by
    intro listed hcl hl
    unfold reach at h
    cases ho : ops[i]? with
    | none => rw [ho] at h; simp at h
    | some o =>
      rw [ho] at h
      simp only [List.any_eq_true, Bool.and_eq_true, Bool.or_eq_true, decide_eq_true_eq] at h
      obtain ⟨e, he, hb, hj⟩ := h
      have hon := hl o ho e (by simpa using he) hb
      rcases hj with hj | hj
      · rw [← hj]; exact hon
      · exact reach_needs hj listed hcl fun o' ho' e' he' hb' => hcl e.on o' ho' hon e' he' hb'

/-- facts: of each front operation i, from the values of the operations D i, its own value, its blocks, the world -/
abbrev Facts := Nat → List Value → Value → Nat → Nat → World → Prop
def val (a : Act) (t : Tmp) : Value := a.tmps.getD t undef
structure St (md : Region.Mode) (ops : Array Oper) (F : Nat) (dst : Nat → Tmp) (D : Nat → List Nat) (V : Facts) (a0 : Act) (w0 : World) (listed : Array Bool) (a : Act) (w : World) : Prop where
  size : listed.size = ops.size
  closed : Closed md ops listed
  ext : Below w0.heap.size w0 w
  tm : a.tmps.size = a0.tmps.size
  df : a.defers = a0.defers
  agree : ∀ t, (∀ j, j < F → dst j ≠ t) → a.tmps[t]? = a0.tmps[t]?
  noTail : ∀ i, F ≤ i → listed.getD i false = false
  facts : ∃ R : Nat → Nat × Nat, (∀ j, j < F → listed.getD j false = true → V j ((D j).map fun k => val a (dst k)) (val a (dst j)) (R j).1 (R j).2 w ∧ w0.heap.size ≤ (R j).1 ∧ (R j).1 ≤ (R j).2 ∧ (R j).2 ≤ w.heap.size) ∧
    ∀ j k, j < F → k < F → j ≠ k → listed.getD j false = true → listed.getD k false = true → (R j).2 ≤ (R k).1 ∨ (R k).2 ≤ (R j).1
theorem val_put_ne {a : Act} {d t : Tmp} {v : Value} (h : d ≠ t) : val (a.put (some d) v) t = val a t := by
  simp [val, Act.put, Array.getD_eq_getD_getElem?, Array.getElem?_setIfInBounds_ne h]
theorem val_put {a : Act} {d : Tmp} {v : Value} (h : d < a.tmps.size) : val (a.put (some d) v) d = v := by
  simp [val, Act.put, h]
variable {F : Nat} {dst : Nat → Tmp} {D : Nat → List Nat} {V : Facts} {a0 : Act} {w0 : World} {Q' : Exit → Act → World → Prop}
theorem St.step {listed : Array Bool} {a : Act} {w w' : World} {i : Nat} {v : Value} (h : St md ops F dst D V a0 w0 listed a w) (hi : i < F) (hr : i ∈ Region.ready md ops listed)
    (hinj : ∀ j k, j < F → k < F → dst j = dst k → j = k) (hdst : dst i < a0.tmps.size) (hD : ∀ j, j < F → ∀ k ∈ D j, k < F ∧ Needs md ops j k)
    (hst : ∀ j l v lo hi w w', Below w.heap.size w w' → V j l v lo hi w → V j l v lo hi w')
    (hb : Below w.heap.size w w') (hv : V i ((D i).map fun k => val a (dst k)) v w.heap.size w'.heap.size w') :
    St md ops F dst D V a0 w0 (listed.setIfInBounds i true) (a.put (some (dst i)) v) w' := by
  obtain ⟨hun, oi, hoi, hall⟩ := mem_ready.1 hr
  have hilt : i < ops.size := (Array.getElem?_eq_some_iff.1 hoi).1
  have hz := h.ext.size
  have hzw := hb.size
  have hni : listed.getD i false ≠ true := fun he => by
    have := getD_tf (by rw [h.size]; exact hilt) he
    exact this hun
  have hother : ∀ j, j ≠ i → (listed.setIfInBounds i true).getD j false = listed.getD j false := fun j hj => getD_set_ne false (Ne.symm hj)
  have hself : (listed.setIfInBounds i true).getD i false = true := by simp [h.size, hilt]
  have hdep : ∀ j, j < F → (listed.getD j false = true ∨ j = i) → ∀ k ∈ D j, k ≠ i := by
    intro j hj hl k hk e
    subst e
    have hN := (hD j hj k hk).2
    rcases hl with hl | rfl
    · refine hni ?_
      exact hN listed h.closed fun o ho e he hbd => h.closed j o ho hl e he hbd
    · exact hni (hN.ready h.closed hr)
  have hmap : ∀ j, j < F → (listed.getD j false = true ∨ j = i) → ((D j).map fun k => val (a.put (some (dst i)) v) (dst k)) = (D j).map fun k => val a (dst k) := by
    intro j hj hl
    refine List.map_congr_left fun k hk => val_put_ne fun e => hdep j hj hl k hk (hinj _ _ (hD j hj k hk).1 hi e.symm)
  obtain ⟨R, hR, hRd⟩ := h.facts
  refine ⟨by simp [h.size], ?_, (h.ext.trans (hb.mono hz)), by simp [Act.put, h.tm], h.df, fun t ht => ?_, fun k hk => ?_, fun j => if j = i then (w.heap.size, w'.heap.size) else R j, fun j hj hl => ?_, fun j k hj hk hjk hl hlk => ?_⟩
  · intro k ok hk hlk e he hbd
    by_cases hki : k = i
    · subst hki
      have : ok = oi := Option.some.inj (hk.symm.trans hoi)
      subst this
      exact getD_set_true (hall e he hbd)
    · rw [hother k hki] at hlk
      exact getD_set_true (h.closed k ok hk hlk e he hbd)
  · rw [← h.agree t ht]
    simp [Act.put, Array.getElem?_setIfInBounds_ne (ht i hi)]
  · rw [hother k (by omega)]; exact h.noTail k hk
  · show V j ((D j).map fun k => val (a.put (some (dst i)) v) (dst k)) (val (a.put (some (dst i)) v) (dst j)) (if j = i then (w.heap.size, w'.heap.size) else R j).1 (if j = i then (w.heap.size, w'.heap.size) else R j).2 w' ∧ w0.heap.size ≤ (if j = i then (w.heap.size, w'.heap.size) else R j).1 ∧ (if j = i then (w.heap.size, w'.heap.size) else R j).1 ≤ (if j = i then (w.heap.size, w'.heap.size) else R j).2 ∧ (if j = i then (w.heap.size, w'.heap.size) else R j).2 ≤ w'.heap.size
    by_cases hji : j = i
    · subst hji
      rw [if_pos rfl, hmap j hj (.inr rfl), val_put (by rw [h.tm]; exact hdst)]
      exact ⟨hv, hz, hzw, Nat.le_refl _⟩
    · rw [hother j hji] at hl
      rw [if_neg hji, hmap j hj (.inl hl), val_put_ne (fun e => hji (hinj _ _ hj hi e.symm))]
      obtain ⟨h1, h2, h3, h4⟩ := hR j hj hl
      exact ⟨hst _ _ _ _ _ _ _ hb h1, h2, h3, by omega⟩
  · show (if j = i then (w.heap.size, w'.heap.size) else R j).2 ≤ (if k = i then (w.heap.size, w'.heap.size) else R k).1 ∨ (if k = i then (w.heap.size, w'.heap.size) else R k).2 ≤ (if j = i then (w.heap.size, w'.heap.size) else R j).1
    by_cases hji : j = i
    · subst hji
      rw [hother k (Ne.symm hjk)] at hlk
      rw [if_pos rfl, if_neg (Ne.symm hjk)]
      exact .inr (hR k hk hlk).2.2.2
    · rw [hother j hji] at hl
      rw [if_neg hji]
      by_cases hki : k = i
      · subst hki
        rw [if_pos rfl]
        exact .inl (hR j hj hl).2.2.2
      · rw [hother k hki] at hlk
        rw [if_neg hki]
        exact hRd j k hj hk hjk hl hlk
/-- what an operation may lean on -/
def Leans (F : Nat) (dst : Nat → Tmp) (D : Nat → List Nat) (V : Facts) (a0 : Act) (w0 : World) (i : Nat) (a : Act) (w : World) : Prop :=
  Below w0.heap.size w0 w ∧ a.tmps.size = a0.tmps.size ∧ a.defers = a0.defers ∧ (∀ t, (∀ j, j < F → dst j ≠ t) → a.tmps[t]? = a0.tmps[t]?) ∧
    ∃ R : Nat → Nat × Nat, (∀ j ∈ D i, V j ((D j).map fun k => val a (dst k)) (val a (dst j)) (R j).1 (R j).2 w ∧ w0.heap.size ≤ (R j).1 ∧ (R j).1 ≤ (R j).2 ∧ (R j).2 ≤ w.heap.size) ∧ ∀ j ∈ D i, ∀ k ∈ D i, j ≠ k → (R j).2 ≤ (R k).1 ∨ (R k).2 ≤ (R j).1
theorem facts_any (hinj : ∀ j k, j < F → k < F → dst j = dst k → j = k) (hdst : ∀ j, j < F → dst j < a0.tmps.size) (hD : ∀ j, j < F → ∀ k ∈ D j, k < F ∧ Needs md ops j k)
    (hst : ∀ j l v lo hi w w', Below w.heap.size w w' → V j l v lo hi w → V j l v lo hi w')
    (hat : ∀ i, i < F → ∃ o, ops[i]? = some o ∧ o.guard = none ∧ o.dst = some (dst i))
    (hlow : ∀ i o, i < F → ops[i]? = some o → ∀ e ∈ o.after, Region.binds md e = true → e.on < i)
    (htail : ∀ t, F ≤ t → t < ops.size → ∀ i, i < F → Needs md ops t i)
    (hop : ∀ i o, i < F → ops[i]? = some o → ∀ a w, Leans F dst D V a0 w0 i a w → o.wp P a w (fun a' w' => ∃ v, a' = a.put (some (dst i)) v ∧ Below w.heap.size w w' ∧ V i ((D i).map fun k => val a (dst k)) v w.heap.size w'.heap.size w') (fun _ _ _ => False))
    (hend : ∀ listed a w, St md ops F dst D V a0 w0 listed a w → (∀ j, j < F → listed.getD j false = true) → wpAny P md ops Q' (ops.size - F) listed a w) :
    ∀ (m : Nat) (L : List Nat) (listed : Array Bool) (a : Act) (w : World), L.length = m → L.Nodup → (∀ j, j ∈ L ↔ j < F ∧ listed.getD j false = false) → St md ops F dst D V a0 w0 listed a w → wpAny P md ops Q' (ops.size - F + m) listed a w := by
  intro m
  induction m with
  | zero =>
    intro L listed a w hL _ hm h
    obtain rfl := List.eq_nil_of_length_eq_zero hL
    refine hend listed a w h fun j hj => ?_
    cases hl : listed.getD j false
    · exact absurd ((hm j).2 ⟨hj, hl⟩) (by simp)
    · rfl
  | succ m ih =>
    intro L listed a w hL hnd hm h
    have hsz := h.size
    refine ⟨fun hr => ?_, fun i hi => ?_⟩
    · exfalso
      -- the least one that isn't listed is ready
      have key : ∀ n, ∀ i, i ≤ n → i < F → listed.getD i false = true := by
        intro n
        induction n with
        | zero =>
          intro i hin hiF
          obtain rfl : i = 0 := by omega
          cases hl : listed.getD 0 false
          · exfalso
            obtain ⟨o, ho, _⟩ := hat 0 hiF
            have h0 : 0 < ops.size := (Array.getElem?_eq_some_iff.1 ho).1
            have : 0 ∈ Region.ready md ops listed := mem_ready.2 ⟨by simp [hsz, h0] at hl ⊢; exact hl, o, ho, fun e he hb => absurd (hlow 0 o hiF ho e he hb) (by omega)⟩
            rw [hr] at this; cases this
          · rfl
        | succ n ihn =>
          intro i hin hiF
          by_cases h1 : i ≤ n
          · exact ihn i h1 hiF
          · cases hl : listed.getD i false
            · exfalso
              obtain ⟨o, ho, _⟩ := hat i hiF
              have h0 : i < ops.size := (Array.getElem?_eq_some_iff.1 ho).1
              have : i ∈ Region.ready md ops listed := mem_ready.2 ⟨by simp [hsz, h0] at hl ⊢; exact hl, o, ho, fun e he hb => ihn e.on (by have := hlow i o hiF ho e he hb; omega) (by have := hlow i o hiF ho e he hb; omega)⟩
              rw [hr] at this; cases this
            · rfl
      cases L with
      | nil => simp at hL
      | cons x L =>
        obtain ⟨hx, hxl⟩ := (hm x).1 (by simp)
        rw [key x x (Nat.le_refl _) hx] at hxl; cases hxl
    · obtain ⟨hun, oi, hoi, hall⟩ := mem_ready.1 hi
      have hilt : i < ops.size := (Array.getElem?_eq_some_iff.1 hoi).1
      by_cases hiF : i < F
      · obtain ⟨o, ho, hg, hd⟩ := hat i hiF
        obtain rfl : oi = o := Option.some.inj (hoi.symm.trans ho)
        unfold wpOp
        simp only [hoi]
        rw [if_pos (by simp [Region.wanted, hg])]
        refine .inl (wp_noexit ?_)
        obtain ⟨R, hR, hRd⟩ := h.facts
        have hl : ∀ j ∈ D i, j < F ∧ listed.getD j false = true := fun j hj => ⟨(hD i hiF j hj).1, (hD i hiF j hj).2.ready h.closed hi⟩
        refine Oper.wp_mono (fun a' w' hk => ?_) (hop i oi hiF hoi a w ⟨h.ext, h.tm, h.df, h.agree, R, fun j hj => hR j (hl j hj).1 (hl j hj).2, fun j hj k hk hjk => hRd j k (hl j hj).1 (hl k hk).1 hjk (hl j hj).2 (hl k hk).2⟩)
        obtain ⟨v, rfl, hb, hv⟩ := hk
        have hmi : i ∈ L := (hm i).2 ⟨hiF, by cases hq : listed.getD i false with | false => rfl | true => exact absurd hun (getD_tf (by rw [hsz]; exact hilt) hq)⟩
        refine ih (L.erase i) _ _ _ (by rw [List.length_erase_of_mem hmi, hL]; rfl) (hnd.erase i) (fun j => ?_) (h.step hiF hi hinj (hdst i hiF) hD hst hb hv)
        rw [hnd.mem_erase_iff]
        by_cases hji : j = i
        · subst hji
          constructor
          · exact fun hx => absurd rfl hx.1
          · rintro ⟨_, hx⟩; simp [hsz, hilt] at hx
        · rw [getD_set_ne false (Ne.symm hji)]
          constructor
          · exact fun hx => (hm j).1 hx.2
          · exact fun hx => ⟨hji, (hm j).2 hx⟩
      · exfalso
        cases L with
        | nil => simp at hL
        | cons x L =>
          obtain ⟨hx, hxl⟩ := (hm x).1 (by simp)
          rw [(htail i (by omega) hilt x hx).ready h.closed hi] at hxl; cases hxl
theorem put_inj {a : Act} {d : Tmp} {u v : Value} (hd : d < a.tmps.size) (h : a.put (some d) u = a.put (some d) v) : u = v := by
  have h1 := congrArg (fun b => val b d) h
  simpa [val_put hd] using h1
/-- An operation is run at another Act that agrees on what the operation looks at. -/
theorem wp_agree {o : Oper} (hs : ∀ cs b, o.op ≠ .select cs b) {a ac : Act} {w : World} {K : Value → World → Prop} {d : Tmp} (ho : o.dst = some d) (hd : d < ac.tmps.size) (h : ∀ x ∈ o.op.operands, a.eval x = ac.eval x)
    (hh : o.wp P ac w (fun a' w' => ∃ v, a' = ac.put (some d) v ∧ K v w') (fun _ _ _ => False)) : o.wp P a w (fun a' w' => ∃ v, a' = a.put (some d) v ∧ K v w') (fun _ _ _ => False) := by
  unfold Oper.wp at *
  rw [execOp_congr o hs h]
  generalize (execOp ac.eval o).run P w = r at *
  cases r with
  | ok n w' =>
    cases n <;> simp only [Oper.upon, ho] at hh ⊢
    case value u => obtain ⟨v, e, k⟩ := hh; rw [put_inj hd e]; exact ⟨v, rfl, k⟩
    case skip => obtain ⟨v, e, k⟩ := hh; rw [put_inj hd e]; exact ⟨v, rfl, k⟩
    case defer x =>
      obtain ⟨v, e, k⟩ := hh
      have := congrArg Act.defers e
      simp [Act.put] at this
    case enter f args =>
      refine Calls.mono hh fun e w'' he => ?_
      cases e with
      | returned u => obtain ⟨v, e, k⟩ := he; rw [put_inj hd e]; exact ⟨v, rfl, k⟩
      | panicked c => exact he
      | outgrown => exact he
    case row row args => exact Rows.mono hh fun u w'' he => by obtain ⟨v, e, k⟩ := he; rw [put_inj hd e]; exact ⟨v, rfl, k⟩
  | halt x w' => cases x <;> simp only [Oper.upon] at hh ⊢
/-- everything but the tail is done -/
def Done (F : Nat) (dst : Nat → Tmp) (D : Nat → List Nat) (V : Facts) (a0 : Act) (w0 : World) (a : Act) (w : World) : Prop :=
  Below w0.heap.size w0 w ∧ a.tmps.size = a0.tmps.size ∧ a.defers = a0.defers ∧ (∀ t, (∀ j, j < F → dst j ≠ t) → a.tmps[t]? = a0.tmps[t]?) ∧
    ∃ R : Nat → Nat × Nat, (∀ j, j < F → V j ((D j).map fun k => val a (dst k)) (val a (dst j)) (R j).1 (R j).2 w ∧ w0.heap.size ≤ (R j).1 ∧ (R j).1 ≤ (R j).2 ∧ (R j).2 ≤ w.heap.size) ∧ ∀ j k, j < F → k < F → j ≠ k → (R j).2 ≤ (R k).1 ∨ (R k).2 ≤ (R j).1
def chkA (ops : Array Oper) (F : Nat) (dsts : List Tmp) (Ds : List (List Nat)) : Bool :=
  decide (ops.size = F + 1) && decide (dsts.length = F) && decide dsts.Nodup &&
    (List.range F).all (fun i => match ops[i]? with
      | none => false
      | some o => o.guard.isNone && decide (o.dst = some (dsts.getD i 0)) && o.after.toList.all (fun e => !Region.binds .any e || decide (e.on < i)) && (Ds.getD i []).all fun k => decide (k < F) && reach .any ops F i k) &&
    (List.range F).all (fun i => reach .any ops (F + 1) F i) &&
    (match ops[F]? with | none => false | some o => o.guard.isNone && o.after.toList.all (fun e => !Region.binds .any e || decide (e.on < F)))
/-- **A region that draws its order, one operation at the end, walked by facts.** -/
theorem wp_region_facts {id : Nat} {a0 : Act} {w : World} {l : List Oper} (F : Nat) (dsts : List Tmp) (Ds : List (List Nat)) (V : Facts) (hm : P.follows .mixedOrders = true) (hB : chkA l.toArray F dsts Ds = true) (hsz : ∀ t ∈ dsts, t < a0.tmps.size)
    (hst : ∀ j l v lo hi w w', Below w.heap.size w w' → V j l v lo hi w → V j l v lo hi w')
    (hop : ∀ i o, i < F → l[i]? = some o → ∀ a w', Leans F (fun j => dsts.getD j 0) (fun j => Ds.getD j []) V a0 w.drew i a w' → o.wp P a w' (fun a' w'' => ∃ v, a' = a.put (some (dsts.getD i 0)) v ∧ Below w'.heap.size w' w'' ∧ V i ((Ds.getD i []).map fun k => val a (dsts.getD k 0)) v w'.heap.size w''.heap.size w'') (fun _ _ _ => False))
    (hend : ∀ o, l[F]? = some o → ∀ a w', Done F (fun j => dsts.getD j 0) (fun j => Ds.getD j []) V a0 w.drew a w' → o.wp P a w' (fun a w => Q' .normal a w) (fun _ _ _ => False)) : (Code.region id l.toArray true).wp P Q' a0 w := by
  simp only [chkA, Bool.and_eq_true, decide_eq_true_eq, List.all_eq_true, List.mem_range] at hB
  obtain ⟨⟨⟨⟨⟨hs, hl⟩, hnd⟩, hat⟩, htl⟩, hte⟩ := hB
  have hlt : ∀ j, j < F → dsts.getD j 0 ∈ dsts := fun j hj => by
    rw [List.getD_eq_getElem?_getD, List.getElem?_eq_getElem (by omega)]; exact List.getElem_mem (by omega)
  have hat' : ∀ i, i < F → ∃ o, l.toArray[i]? = some o ∧ o.guard = none ∧ o.dst = some (dsts.getD i 0) ∧ (∀ e ∈ o.after, Region.binds .any e = true → e.on < i) ∧ ∀ k ∈ Ds.getD i [], k < F ∧ Needs .any l.toArray i k := by
    intro i hi
    have := hat i hi
    cases ho : l.toArray[i]? with
    | none => rw [ho] at this; simp at this
    | some o =>
      rw [ho] at this
      simp only [Bool.and_eq_true, decide_eq_true_eq, List.all_eq_true, Bool.or_eq_true, Bool.not_eq_true', Option.isNone_iff_eq_none] at this
      obtain ⟨⟨⟨h1, h2⟩, h3⟩, h4⟩ := this
      refine ⟨o, rfl, h1, h2, fun e he hb => ?_, fun k hk => ⟨(h4 k hk).1, reach_needs (h4 k hk).2⟩⟩
      rcases h3 e (by simpa using he) with h5 | h5
      · rw [hb] at h5; cases h5
      · exact h5
  refine wp_region_any hm ?_
  have hmain := facts_any (P := P) (ops := l.toArray) (md := .any) (F := F) (dst := fun j => dsts.getD j 0) (D := fun j => Ds.getD j []) (V := V) (a0 := a0) (w0 := w.drew) (Q' := Q') ?_ ?_ ?_ hst ?_ ?_ ?_ ?_ ?_ F (List.range F) (Array.replicate l.toArray.size false) a0 w.drew (by simp) List.nodup_range ?_ ?_
  · rw [show l.toArray.size - F + F = l.toArray.size by omega] at hmain; exact hmain
  · intro j k hj hk e
    have e1 : dsts.getD j 0 = dsts.getD k 0 := e
    rw [List.getD_eq_getElem?_getD, List.getD_eq_getElem?_getD, List.getElem?_eq_getElem (show j < dsts.length by omega), List.getElem?_eq_getElem (show k < dsts.length by omega)] at e1
    simp only [Option.getD_some] at e1
    rcases Nat.lt_trichotomy j k with h | h | h
    · exact absurd e1 (List.pairwise_iff_getElem.1 hnd j k (by omega) (by omega) h)
    · exact h
    · exact absurd e1.symm (List.pairwise_iff_getElem.1 hnd k j (by omega) (by omega) h)
  · exact fun j hj => hsz _ (hlt j hj)
  · intro j hj k hk
    obtain ⟨o, _, _, _, _, h⟩ := hat' j hj
    exact h k hk
  · intro i hi
    obtain ⟨o, h1, h2, h3, _⟩ := hat' i hi
    exact ⟨o, h1, h2, h3⟩
  · intro i o hi ho e he hb
    obtain ⟨o', h1, _, _, h4, _⟩ := hat' i hi
    obtain rfl : o' = o := Option.some.inj (h1.symm.trans ho)
    exact h4 e he hb
  · intro t h1 h2 i hi
    obtain rfl : t = F := by omega
    exact reach_needs (htl i hi)
  · intro i o hi ho a w' hle
    exact hop i o hi (by simpa using ho) a w' hle
  · intro listed a w' h hall
    obtain ⟨o, ho⟩ : ∃ o, l.toArray[F]? = some o := ⟨_, Array.getElem?_eq_getElem (by omega)⟩
    rw [ho] at hte
    simp only [Bool.and_eq_true, List.all_eq_true, Bool.or_eq_true, Bool.not_eq_true', decide_eq_true_eq, Option.isNone_iff_eq_none] at hte
    have hFs : F < listed.size := by rw [h.size]; omega
    have hready : F ∈ Region.ready .any l.toArray listed := mem_ready.2 ⟨by have := h.noTail F (Nat.le_refl _); simp [hFs] at this ⊢; exact this, o, ho, fun e he hb => hall _ (by
      rcases hte.2 e (by simpa using he) with h5 | h5
      · rw [hb] at h5; cases h5
      · exact h5)⟩
    rw [show l.toArray.size - F = 0 + 1 by omega]
    refine ⟨fun hr => (by rw [hr] at hready; cases hready), fun i hi => ?_⟩
    obtain ⟨hun, oi, hoi, _⟩ := mem_ready.1 hi
    have hilt : i < l.toArray.size := (Array.getElem?_eq_some_iff.1 hoi).1
    obtain rfl : i = F := by
      by_cases hiF : i < F
      · exact absurd hun (getD_tf (by rw [h.size]; exact hilt) (hall i hiF))
      · omega
    obtain rfl : oi = o := Option.some.inj (hoi.symm.trans ho)
    unfold wpOp
    simp only [hoi]
    rw [if_pos (by simp [Region.wanted, hte.1])]
    refine .inl (wp_noexit (Oper.wp_mono (fun a' w'' hk => ⟨?_, hk⟩) (hend oi (by simpa using ho) a w' ⟨h.ext, h.tm, h.df, h.agree, ?_⟩)))
    · refine List.eq_nil_iff_forall_not_mem.2 fun j hj => ?_
      obtain ⟨hun', oj, hoj, _⟩ := mem_ready.1 hj
      have hjlt : j < l.toArray.size := (Array.getElem?_eq_some_iff.1 hoj).1
      by_cases hji : j = i
      · subst hji; simp [hFs] at hun'
      · rw [getD_set_ne true (Ne.symm hji)] at hun'
        exact absurd hun' (getD_tf (by rw [h.size]; exact hjlt) (hall j (by omega)))
    · obtain ⟨R, h1, h2⟩ := h.facts
      exact ⟨R, fun j hj => h1 j hj (hall j hj), fun j k hj hk hjk => h2 j k hj hk hjk (hall j hj) (hall k hk)⟩
  · intro j
    simp only [List.mem_range]
    constructor
    · intro hj; refine ⟨hj, ?_⟩; simp [Array.getD]
    · exact fun h => h.1
  · refine ⟨by simp, fun k ok hk hl => ?_, ⟨rfl, rfl, rfl, Nat.le_refl _, fun _ _ => rfl⟩, rfl, rfl, fun _ _ => rfl, fun i _ => by simp [Array.getD], fun _ => (0, 0), fun j _ hl => ?_, fun j k _ _ _ hl _ => ?_⟩
    all_goals simp [Array.getD] at hl
end
end MixA
end Go.Proofs.YtebjpmmgdkepjaaGreatDoor
