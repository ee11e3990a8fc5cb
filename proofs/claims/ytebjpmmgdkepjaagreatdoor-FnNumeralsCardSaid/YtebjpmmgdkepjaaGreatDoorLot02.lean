/-
  Parts of the proof, one behind the other: contracts of the functions that the law reaches, and plain laws.
-/
import Derived.Deep.Quiet
import Derived.Tactics2
import Derived.Below
/-
  A region that draws its order, walked once in the order of the text: pure operations, readers of a class of worlds, changers that keep the class and are ordered among themselves, and a tail. Holds for every program and every region that passes the Bool 'mixB'.
-/
namespace Go.Proofs.YtebjpmmgdkepjaaGreatDoor
open Go.RowKit
namespace Mix

section
variable {P : Program} {ops : Array Oper} {C : World → Prop}

/-- operations that enter no function -/
def quietOp (o : Oper) : Bool :=
  match o.op with
  | .move _ | .assign _ | .pick .. | .load .. | .nilCheck _ | .binOp .. | .unOp .. | .convert .. | .slice .. | .fieldAddr .. | .field .. | .indexAddr .. | .index .. | .extract .. | .makeInterface .. | .lookup .. | .makeFunc .. => true
  | .call c => (match c.callee with | .builtin .len => true | .builtin .cap => true | .builtin .max => true | .builtin .min => true | _ => false)
  | _ => false

theorem no_enter_v {s : Sem Value} {w w' : World} {f : FuncId} {args : Array Value} : ((do pure (.value (← s)) : Sem Next)).run P w ≠ .ok (.enter f args) w' := by
  simp only [Sem.run_bind, Sem.run_pure]
  cases s.run P w <;> simp [Result.andThen]

theorem no_enter_bind {α : Type} {s : Sem α} {g : α → Sem Next} {w w' : World} {f : FuncId} {args : Array Value} (h : ∀ x u, (g x).run P u ≠ .ok (.enter f args) w') : (s >>= g).run P w ≠ .ok (.enter f args) w' := by
  simp only [Sem.run_bind]
  cases s.run P w with
  | ok x u => simpa [Result.andThen] using h x u
  | halt x u => simp [Result.andThen]

theorem no_enter {o : Oper} {ρ : Operand → Value} {w w' : World} {f : FuncId} {args : Array Value} (h : quietOp o = true) : (execOp ρ o).run P w ≠ .ok (.enter f args) w' := by
  obtain ⟨dst, op, type, pos, after, guard⟩ := o
  cases op <;> simp only [quietOp] at h <;> first | (exact absurd h (by decide)) | skip
  all_goals simp only [execOp]
  case call c =>
    cases hc : c.callee with
    | value f => rw [hc] at h; cases h
    | invoke r m => rw [hc] at h; cases h
    | builtin b =>
      rw [hc] at h
      cases b <;> first | (exact absurd h (by decide)) | skip
      all_goals simp only [resolve, hc, invoke, builtin, Sem.run_bind, Sem.run_pure, Result.andThen_ok]
      all_goals (generalize Sem.run P _ w = r; cases r <;> simp [Result.andThen])
  case nilCheck x =>
    split
    all_goals first | (simp [runtimePanic, goPanic]; done) | skip
    split
    · simp [runtimePanic, goPanic]
    · refine no_enter_bind fun x u => no_enter_bind fun x u => ?_
      split
      · refine no_enter_bind fun x u => ?_
        simp
      · simp
    · simp
  case pick => exact no_enter_bind fun x u => by simp
  all_goals first | exact no_enter_v | simp

/-- What a reader yields: the value v, in the very world that it got. -/
def readAt (P : Program) (o : Oper) (a : Act) (w : World) (v : Value) : Prop := (execOp a.eval o).run P w = .ok (.value v) w

theorem read_of_quiet {o : Oper} {a : Act} {w : World} {v : Value} (hq : quietOp o = true) (hu : o.quietAt P a C w v) : readAt P o a w v ∨ ((execOp a.eval o).run P w = .ok .skip w ∧ v = undef) := by
  unfold Oper.quietAt at hu
  unfold readAt
  have hn := fun f args w' => no_enter (P := P) (o := o) (ρ := a.eval) (w := w) (w' := w') (f := f) (args := args) hq
  generalize (execOp a.eval o).run P w = r at *
  cases r with
  | ok n w' =>
    cases n <;> simp only [Oper.quietUpon] at hu
    case value u => obtain ⟨rfl, rfl⟩ := hu; exact .inl rfl
    case skip => obtain ⟨rfl, rfl⟩ := hu; exact .inr ⟨rfl, rfl⟩
    case enter f args => exact absurd rfl (hn f args w')
  | halt x w' => simp only [Oper.quietUpon] at hu

/-- in one world of the class the reader yields v -/
def reads (P : Program) (o : Oper) (a : Act) (w : World) (v : Value) : Prop := readAt P o a w v ∨ ((execOp a.eval o).run P w = .ok .skip w ∧ v = undef)

theorem reads_inj {o : Oper} {a : Act} {w : World} {u v : Value} (h : reads P o a w u) (h' : reads P o a w v) : u = v := by
  unfold reads readAt at *
  rcases h with h | ⟨h, rfl⟩ <;> rcases h' with h' | ⟨h', rfl⟩ <;> rw [h] at h' <;> simp at h'
  exact h'

/-- kinds: 0 pure (the same in every world), 1 changer (keeps the class), 2 tail, else a reader (the same in every world of the class) -/
def mixAt (P : Program) (ops : Array Oper) (C : World → Prop) (k : Nat) (i : Nat) (K : Act → World → Prop) (a : Act) (w : World) : Prop :=
  match ops[i]? with
  | none => K a w
  | some o => if Region.wanted o (yielded ops a.tmps) then
      (if k = 0 then ∃ v, (∀ w, reads P o a w v) ∧ K (a.put o.dst v) w
       else if k = 1 then o.wp P a w (fun a' w' => C w' ∧ K a' w') (fun _ _ _ => False)
       else if k = 2 then o.wp P a w K (fun _ _ _ => False)
       else ∃ v, (∀ w, C w → reads P o a w v) ∧ K (a.put o.dst v) w)
    else K (a.put o.dst undef) w

theorem wp_noexit {o : Oper} {a : Act} {w : World} {K : Act → World → Prop} {Q : Exit → Act → World → Prop} (h : o.wp P a w K (fun _ _ _ => False)) : o.wp P a w K Q := by
  unfold Oper.wp at *
  generalize (execOp a.eval o).run P w = r at *
  cases r with
  | ok n w' =>
    cases n <;> simp only [Oper.upon] at h ⊢ <;> first | exact h | skip
    exact Calls.mono h (fun e w'' he => by cases e <;> first | exact he | exact (he : False).elim | (obtain ⟨_, _, he⟩ := (he : LetsOut _); exact (he : False).elim))
  | halt x w' => cases x <;> simp only [Oper.upon] at h ⊢

/-- An operation is run beside a slot that it does not look at. -/
theorem wp_put {o : Oper} (hs : ∀ cs b, o.op ≠ .select cs b) {a : Act} {w : World} {K : Act → World → Prop} {d : Option Tmp} {v : Value} (h1 : ∀ x, d = some x → x ∉ o.looksAt ops) (h2 : ∀ x, d = some x → o.dst ≠ some x) :
    o.wp P (a.put d v) w K (fun _ _ _ => False) ↔ o.wp P a w (fun a' w' => K (a'.put d v) w') (fun _ _ _ => False) := by
  have hc : ∀ (b : Act) (u : Value), (b.put d v).put o.dst u = (b.put o.dst u).put d v := fun b u => Act.put_comm b v u h2
  have hd : ∀ x, ({ (a.put d v) with defers := x } : Act) = ({ a with defers := x } : Act).put d v := fun x => by cases d <;> rfl
  have hdf : (a.put d v).defers = a.defers := by cases d <;> rfl
  unfold Oper.wp
  rw [execOp_put (ops := ops) o hs a d v h1]
  generalize (execOp a.eval o).run P w = r
  cases r with
  | ok n w' =>
    cases n <;> simp only [Oper.upon, hc, hd, hdf]
  | halt x w' => cases x <;> simp only [Oper.upon]

theorem reads_put {o : Oper} (hs : ∀ cs b, o.op ≠ .select cs b) {a : Act} {w : World} {d : Option Tmp} {u v : Value} (h1 : ∀ x, d = some x → x ∉ o.looksAt ops) : reads P o (a.put d u) w v ↔ reads P o a w v := by
  unfold reads readAt
  rw [execOp_put (ops := ops) o hs a d u h1]

theorem reads_defers {o : Oper} {a : Act} {w : World} {v : Value} (ds : List Deferred) : reads P o { a with defers := ds } w v ↔ reads P o a w v := by
  unfold reads readAt
  have : ({ a with defers := ds } : Act).eval = a.eval := by funext x; cases x <;> rfl
  rw [this]

/-- what is reached: one state at least -/
theorem wp_some {o : Oper} {a : Act} {w : World} {K : Act → World → Prop} (h : o.wp P a w K (fun _ _ _ => False)) : ∃ u ds w', K (({ a with defers := ds } : Act).put o.dst u) w' := by
  unfold Oper.wp at h
  generalize (execOp a.eval o).run P w = r at *
  cases r with
  | ok n w' =>
    cases n <;> simp only [Oper.upon] at h
    case value u => exact ⟨u, a.defers, w', h⟩
    case skip => exact ⟨_, a.defers, w', h⟩
    case defer d => exact ⟨_, _, w', h⟩
    case enter f args =>
      obtain ⟨e, w'', fr, hr, _⟩ := h []
      cases e with
      | returned v => exact ⟨v, a.defers, w'', hr⟩
      | panicked c => exact (hr : False).elim
      | outgrown => obtain ⟨_, _, he⟩ := (hr : LetsOut _); exact (he : False).elim
    case row row args =>
      obtain ⟨v, w'', hr, _⟩ := h default []
      exact ⟨v, a.defers, w'', hr⟩
  | halt x w' => cases x <;> simp only [Oper.upon] at h

theorem wp_mono_at {o : Oper} {a : Act} {w : World} {K K' : Act → World → Prop} (hm : ∀ a' w', (∃ u ds, a' = ({ a with defers := ds } : Act).put o.dst u) → K a' w' → K' a' w') (h : o.wp P a w K (fun _ _ _ => False)) : o.wp P a w K' (fun _ _ _ => False) := by
  unfold Oper.wp at *
  generalize (execOp a.eval o).run P w = r at *
  cases r with
  | ok n w' =>
    cases n <;> simp only [Oper.upon] at h ⊢
    case value u => exact hm _ _ ⟨u, a.defers, rfl⟩ h
    case skip => exact hm _ _ ⟨_, a.defers, rfl⟩ h
    case defer d => exact hm _ _ ⟨_, _, rfl⟩ h
    case enter f args =>
      refine Calls.mono h fun e w'' he => ?_
      cases e with
      | returned v => exact hm _ _ ⟨v, a.defers, rfl⟩ he
      | panicked c => exact he
      | outgrown => exact he
    case row row args => exact Rows.mono h fun v w'' he => hm _ _ ⟨v, a.defers, rfl⟩ he
  | halt x w' => cases x <;> simp only [Oper.upon] at h ⊢

theorem mixAt_some {k i : Nat} {o : Oper} {K : Act → World → Prop} {a : Act} {w : World} (hi : ops[i]? = some o) : mixAt P ops C k i K a w =
    if Region.wanted o (yielded ops a.tmps) then
      (if k = 0 then ∃ v, (∀ w, reads P o a w v) ∧ K (a.put o.dst v) w
       else if k = 1 then o.wp P a w (fun a' w' => C w' ∧ K a' w') (fun _ _ _ => False)
       else if k = 2 then o.wp P a w K (fun _ _ _ => False)
       else ∃ v, (∀ w, C w → reads P o a w v) ∧ K (a.put o.dst v) w)
    else K (a.put o.dst undef) w := by
  unfold mixAt; simp only [hi]

theorem mixAt_mono {k i : Nat} {K K' : Act → World → Prop} {a : Act} {w : World} (h : ∀ a w', (k = 1 → C w') → (k ≠ 1 → k ≠ 2 → w' = w) → K a w' → K' a w') (hn : ops[i]? ≠ none) (hh : mixAt P ops C k i K a w) (hcw : k = 1 → C w) : mixAt P ops C k i K' a w := by
  cases ho : ops[i]? with
  | none => exact absurd ho hn
  | some o =>
    rw [mixAt_some ho] at *
    split
    · rename_i hwd
      rw [if_pos hwd] at hh
      by_cases h0 : k = 0
      · rw [if_pos h0] at hh ⊢; obtain ⟨v, h1, h2⟩ := hh; exact ⟨v, h1, h _ _ (by omega) (fun _ _ => rfl) h2⟩
      · rw [if_neg h0] at hh ⊢
        by_cases h1 : k = 1
        · rw [if_pos h1] at hh ⊢; exact Oper.wp_mono (fun a w ⟨hc, hk⟩ => ⟨hc, h _ _ (fun _ => hc) (fun h => absurd h1 h) hk⟩) hh
        · rw [if_neg h1] at hh ⊢
          by_cases h2 : k = 2
          · rw [if_pos h2] at hh ⊢; exact Oper.wp_mono (fun a w hk => h _ _ (fun h => absurd h h1) (fun _ hne => absurd h2 hne) hk) hh
          · rw [if_neg h2] at hh ⊢; obtain ⟨v, h3, h4⟩ := hh; exact ⟨v, h3, h _ _ (fun h => absurd h h1) (fun _ _ => rfl) h4⟩
    · rename_i hwd; rw [if_neg hwd] at hh; exact h _ _ hcw (fun _ _ => rfl) hh

/-- which two operations may change places -/
def okPair (k k' : Nat) : Bool := k == 0 || k' == 0 || (k != 1 && k != 2 && k' != 1 && k' != 2) || (k == 1 && k' != 1 && k' != 2) || (k' == 1 && k != 1 && k != 2)

section swap
variable {ki kj i j : Nat} {oi oj : Oper} {K : Act → World → Prop} {a : Act} {w : World}

/-- A reader (or what is passed over) that stands behind 'j' goes ahead of it: the value is j's no matter. -/
theorem mixAt_swap (hi : ops[i]? = some oi) (hj : ops[j]? = some oj) (hap : oi.apart ops oj = true) (hsi : ∀ cs b, oi.op ≠ .select cs b) (hsj : ∀ cs b, oj.op ≠ .select cs b)
    (hk : okPair ki kj = true) (hw : ki ≠ 0 → ki ≠ 1 → ki ≠ 2 → C w) (hw1 : ki = 1 → C w)
    (h : mixAt P ops C kj j (mixAt P ops C ki i K) a w) : mixAt P ops C ki i (mixAt P ops C kj j K) a w := by
  obtain ⟨p1, p2, p3⟩ := Oper.apart_spec hap
  have p2' : ∀ d, oj.dst = some d → oi.dst ≠ some d := fun d hd he => p2 d he hd
  have wi : ∀ (b : Act) u, Region.wanted oi (yielded ops (b.put oj.dst u).tmps) = Region.wanted oi (yielded ops b.tmps) := fun b u => wanted_put oi b oj.dst u p3
  have wj : ∀ (b : Act) u, Region.wanted oj (yielded ops (b.put oi.dst u).tmps) = Region.wanted oj (yielded ops b.tmps) := fun b u => wanted_put oj b oi.dst u p1
  have ri : ∀ (b : Act) u w v, reads P oi (b.put oj.dst u) w v ↔ reads P oi b w v := fun b u w v => reads_put hsi p3
  have rj : ∀ (b : Act) u w v, reads P oj (b.put oi.dst u) w v ↔ reads P oj b w v := fun b u w v => reads_put hsj p1
  have cm : ∀ (b : Act) u v, (b.put oi.dst u).put oj.dst v = (b.put oj.dst v).put oi.dst u := fun b u v => Act.put_comm b u v p2
  -- j's step, seen from a state in which i has yielded
  rw [mixAt_some hj] at h
  by_cases hwj : Region.wanted oj (yielded ops a.tmps) = true
  · rw [if_pos hwj] at h
    -- j a reader with value v
    have hreader : ∀ v, (kj = 0 ∧ (∀ w, reads P oj a w v) ∨ (kj ≠ 0 ∧ kj ≠ 1 ∧ kj ≠ 2 ∧ ∀ w, C w → reads P oj a w v)) →
        mixAt P ops C ki i K (a.put oj.dst v) w → mixAt P ops C ki i (mixAt P ops C kj j K) a w := by
      intro v hv hx
      rw [mixAt_some hi, wi] at hx
      have hjr : ∀ b : Act, (∀ w, reads P oj b w v ↔ reads P oj a w v) → Region.wanted oj (yielded ops b.tmps) = true → ∀ w, K (b.put oj.dst v) w → mixAt P ops C kj j K b w := by
        intro b hb hbw w hK
        rw [mixAt_some hj, if_pos hbw]
        rcases hv with ⟨h0, hv⟩ | ⟨n0, n1, n2, hv⟩
        · rw [if_pos h0]; exact ⟨v, fun w => (hb w).2 (hv w), hK⟩
        · rw [if_neg n0, if_neg n1, if_neg n2]; exact ⟨v, fun w hc => (hb w).2 (hv w hc), hK⟩
      rw [mixAt_some hi]
      by_cases hwi : Region.wanted oi (yielded ops a.tmps) = true
      · rw [if_pos hwi] at hx ⊢
        have stepR : ∀ u, K ((a.put oj.dst v).put oi.dst u) w → mixAt P ops C kj j K (a.put oi.dst u) w := fun u hK =>
          hjr _ (fun w => rj a u w v) (by rw [wj]; exact hwj) w (by rw [cm]; exact hK)
        have stepW : ∀ (a' : Act) (w' : World), (∃ u ds, a' = ({ a with defers := ds } : Act).put oi.dst u) → K (a'.put oj.dst v) w' → mixAt P ops C kj j K a' w' := by
          rintro a' w' ⟨u, ds, rfl⟩ hK
          refine hjr _ (fun w => ?_) ?_ w' hK
          · rw [rj]; exact reads_defers ds
          · rw [wj]; exact hwj
        by_cases h0 : ki = 0
        · rw [if_pos h0] at hx ⊢; obtain ⟨u, hu, hK⟩ := hx; exact ⟨u, fun w => (ri a v w u).1 (hu w), stepR u hK⟩
        rw [if_neg h0] at hx ⊢
        by_cases h1 : ki = 1
        · rw [if_pos h1] at hx ⊢
          rw [wp_put hsi p3 p2'] at hx
          exact wp_mono_at (fun a' w' hs hK => ⟨hK.1, stepW a' w' hs hK.2⟩) hx
        rw [if_neg h1] at hx ⊢
        by_cases h2 : ki = 2
        · rw [if_pos h2] at hx ⊢
          rw [wp_put hsi p3 p2'] at hx
          exact wp_mono_at (fun a' w' hs hK => stepW a' w' hs hK) hx
        · rw [if_neg h2] at hx ⊢; obtain ⟨u, hu, hK⟩ := hx; exact ⟨u, fun w hc => (ri a v w u).1 (hu w hc), stepR u hK⟩
      · rw [if_neg hwi] at hx ⊢
        exact hjr _ (fun w => rj a undef w v) (by rw [wj]; exact hwj) w (by rw [cm]; exact hx)
    have hpass : ∀ (X : World → Prop), (ki = 0 ∨ (ki ≠ 0 ∧ ki ≠ 1 ∧ ki ≠ 2 ∧ (C w) ∧ ∀ w, X w → C w)) → oj.wp P a w (fun a' w' => X w' ∧ mixAt P ops C ki i K a' w') (fun _ _ _ => False) →
        mixAt P ops C ki i (fun a' w1 => w1 = w ∧ (∃ u, a' = a.put oi.dst u) ∧ oj.wp P a' w (fun a'' w'' => X w'' ∧ K a'' w'') (fun _ _ _ => False)) a w := by
      intro X hX hx
      obtain ⟨u, ds, w1, hx1, hm1⟩ := wp_some hx
      rw [mixAt_some hi] at hm1 ⊢
      have hwsame : ∀ ds u, Region.wanted oi (yielded ops (({ a with defers := ds } : Act).put oj.dst u).tmps) = Region.wanted oi (yielded ops a.tmps) := fun ds u => wi { a with defers := ds } u
      rw [hwsame] at hm1
      by_cases hwi : Region.wanted oi (yielded ops a.tmps) = true
      · rw [if_pos hwi] at hm1 ⊢
        have rsame : ∀ ds u w v, reads P oi (({ a with defers := ds } : Act).put oj.dst u) w v ↔ reads P oi a w v := fun ds u w v => by rw [ri]; exact reads_defers ds
        rcases hX with h0 | ⟨n0, n1, n2, hcw, hXC⟩
        · rw [if_pos h0] at hm1 ⊢
          obtain ⟨v, hv, _⟩ := hm1
          refine ⟨v, fun w => (rsame _ _ w v).1 (hv w), rfl, ⟨v, rfl⟩, ?_⟩
          rw [wp_put hsj p1 p2]
          refine wp_mono_at ?_ hx
          rintro a' w' ⟨u', ds', rfl⟩ ⟨hX', hm'⟩
          refine ⟨hX', ?_⟩
          rw [mixAt_some hi, hwsame, if_pos hwi, if_pos h0] at hm'
          obtain ⟨v', hv', hK'⟩ := hm'
          have : v' = v := reads_inj ((rsame _ _ w v').1 (hv' w)) ((rsame _ _ w v).1 (hv w))
          subst this
          exact hK'
        · rw [if_neg n0, if_neg n1, if_neg n2] at hm1 ⊢
          obtain ⟨v, hv, _⟩ := hm1
          refine ⟨v, fun w hc => (rsame _ _ w v).1 (hv w hc), rfl, ⟨v, rfl⟩, ?_⟩
          rw [wp_put hsj p1 p2]
          refine wp_mono_at ?_ hx
          rintro a' w' ⟨u', ds', rfl⟩ ⟨hX', hm'⟩
          refine ⟨hX', ?_⟩
          rw [mixAt_some hi, hwsame, if_pos hwi, if_neg n0, if_neg n1, if_neg n2] at hm'
          obtain ⟨v', hv', hK'⟩ := hm'
          have : v' = v := reads_inj ((rsame _ _ w v').1 (hv' w hcw)) ((rsame _ _ w v).1 (hv w hcw))
          subst this
          exact hK'
      · rw [if_neg hwi] at hm1 ⊢
        refine ⟨rfl, ⟨undef, rfl⟩, ?_⟩
        rw [wp_put hsj p1 p2]
        refine wp_mono_at ?_ hx
        rintro a' w' ⟨u', ds', rfl⟩ ⟨hX', hm'⟩
        refine ⟨hX', ?_⟩
        rw [mixAt_some hi, hwsame, if_neg hwi] at hm'
        exact hm'
    · by_cases j0 : kj = 0
      · rw [if_pos j0] at h; obtain ⟨v, hv, hx⟩ := h; exact hreader v (.inl ⟨j0, hv⟩) hx
      rw [if_neg j0] at h
      by_cases j1 : kj = 1
      · rw [if_pos j1] at h
        have hki : ki = 0 ∨ (ki ≠ 0 ∧ ki ≠ 1 ∧ ki ≠ 2) := by
          simp [okPair, j1] at hk; omega
        have h' : oj.wp P a w (fun a' w' => C w' ∧ mixAt P ops C ki i K a' w') (fun _ _ _ => False) := by
          exact h
        have h2 := hpass C (hki.elim .inl fun ⟨ha, hb, hc⟩ => .inr ⟨ha, hb, hc, hw ha hb hc, fun _ h => h⟩) h'
        refine mixAt_mono (C := C) (P := P) (ops := ops) (fun a' w1 _ _ ⟨e1, ⟨u, e2⟩, hx⟩ => ?_) (by rw [hi]; simp) h2 hw1
        subst e1; subst e2
        rw [mixAt_some hj, wj, if_pos hwj, if_neg j0, if_pos j1]
        exact hx
      rw [if_neg j1] at h
      by_cases j2 : kj = 2
      · rw [if_pos j2] at h
        have hki : ki = 0 := by simp [okPair, j2] at hk; omega
        have h' : oj.wp P a w (fun a' w' => True ∧ mixAt P ops C ki i K a' w') (fun _ _ _ => False) := by
          exact Oper.wp_mono (fun a w hh => ⟨trivial, hh⟩) h
        have h2 := hpass (fun _ => True) (.inl hki) h'
        refine mixAt_mono (C := C) (P := P) (ops := ops) (fun a' w1 _ _ ⟨e1, ⟨u, e2⟩, hx⟩ => ?_) (by rw [hi]; simp) h2 hw1
        subst e1; subst e2
        rw [mixAt_some hj, wj, if_pos hwj, if_neg j0, if_neg j1, if_pos j2]
        exact Oper.wp_mono (fun a w hh => hh.2) hx
      · rw [if_neg j2] at h; obtain ⟨v, hv, hx⟩ := h; exact hreader v (.inr ⟨j0, j1, j2, hv⟩) hx
  · rw [if_neg hwj] at h
    rw [mixAt_some hi, wi] at h
    have hjr : ∀ b : Act, Region.wanted oj (yielded ops b.tmps) = Region.wanted oj (yielded ops a.tmps) → ∀ w, K (b.put oj.dst undef) w → mixAt P ops C kj j K b w := by
      intro b hb w hK
      rw [mixAt_some hj, if_neg (by rw [hb]; exact hwj)]; exact hK
    · rw [mixAt_some hi]
      by_cases hwi : Region.wanted oi (yielded ops a.tmps) = true
      · rw [if_pos hwi] at h ⊢
        have stepR : ∀ u, K ((a.put oj.dst undef).put oi.dst u) w → mixAt P ops C kj j K (a.put oi.dst u) w := fun u hK =>
          hjr _ (by rw [wj]) w (by rw [cm]; exact hK)
        have stepW : ∀ (a' : Act) (w' : World), (∃ u ds, a' = ({ a with defers := ds } : Act).put oi.dst u) → K (a'.put oj.dst undef) w' → mixAt P ops C kj j K a' w' := by
          rintro a' w' ⟨u, ds, rfl⟩ hK
          exact hjr _ (by rw [wj]) w' hK
        by_cases h0 : ki = 0
        · rw [if_pos h0] at h ⊢; obtain ⟨u, hu, hK⟩ := h; exact ⟨u, fun w => (ri a undef w u).1 (hu w), stepR u hK⟩
        rw [if_neg h0] at h ⊢
        by_cases h1 : ki = 1
        · rw [if_pos h1] at h ⊢
          rw [wp_put hsi p3 p2'] at h
          exact wp_mono_at (fun a' w' hs hK => ⟨hK.1, stepW a' w' hs hK.2⟩) h
        rw [if_neg h1] at h ⊢
        by_cases h2 : ki = 2
        · rw [if_pos h2] at h ⊢
          rw [wp_put hsi p3 p2'] at h
          exact wp_mono_at (fun a' w' hs hK => stepW a' w' hs hK) h
        · rw [if_neg h2] at h ⊢; obtain ⟨u, hu, hK⟩ := h; exact ⟨u, fun w hc => (ri a undef w u).1 (hu w hc), stepR u hK⟩
      · rw [if_neg hwi] at h ⊢
        exact hjr _ (by rw [wj]) w (by rw [cm]; exact h)
end swap

def mixL (P : Program) (ops : Array Oper) (C : World → Prop) (kd : Nat → Nat) (Q : Act → World → Prop) : List Nat → Act → World → Prop
  | [], a, w => Q a w
  | i :: L, a, w => mixAt P ops C (kd i) i (mixL P ops C kd Q L) a w

variable {kd : Nat → Nat} {Q : Act → World → Prop}

/-- some operation that is still to come leans on the class -/
def leans (kd : Nat → Nat) (L : List Nat) : Prop := ∃ j ∈ L, kd j ≠ 0 ∧ kd j ≠ 2

theorem mixL_bubble (hsel : ∀ (j : Nat) (o : Oper) cs b, ops[j]? = some o → o.op ≠ .select cs b) {i : Nat} {oi : Oper} (hi : ops[i]? = some oi) (L2 : List Nat) :
    ∀ (L1 : List Nat) (a : Act) (w : World),
      (∀ j ∈ L1, ∃ oj, ops[j]? = some oj ∧ oi.apart ops oj = true ∧ okPair (kd i) (kd j) = true) →
      (∀ A j B, L1 ++ i :: L2 = A ++ j :: B → kd j = 2 → ¬ leans kd B) →
      (leans kd (L1 ++ i :: L2) → C w) → mixL P ops C kd Q (L1 ++ i :: L2) a w → mixAt P ops C (kd i) i (mixL P ops C kd Q (L1 ++ L2)) a w
  | [], _, _, _, _, _, h => h
  | j :: L1, a, w, hap, htail, hC, h => by
    obtain ⟨oj, hj, hjap, hok⟩ := hap j (by simp)
    have hin : kd i ≠ 0 → kd i ≠ 2 → leans kd (j :: L1 ++ i :: L2) := fun h0 h2 => ⟨i, by simp, h0, h2⟩
    have hm : mixAt P ops C (kd j) j (mixAt P ops C (kd i) i (mixL P ops C kd Q (L1 ++ L2))) a w := by
      refine mixAt_mono (fun a' w' h1 hs hk => ?_) (by rw [hj]; simp) h (fun hj1 => hC ⟨j, by simp, by omega, by omega⟩)
      refine mixL_bubble hsel hi L2 L1 a' w' (fun j' hj' => hap j' (by simp [hj'])) (fun A j' B he => htail (j :: A) j' B (by simp [he])) (fun hl => ?_) hk
      by_cases k1 : kd j = 1
      · exact h1 k1
      by_cases k2 : kd j = 2
      · exact absurd hl (htail [] j (L1 ++ i :: L2) rfl k2)
      · rw [hs k1 k2]; obtain ⟨x, hx, hx'⟩ := hl; exact hC ⟨x, by simp only [List.cons_append, List.mem_cons]; exact .inr hx, hx'⟩
    exact mixAt_swap hi hj hjap (fun cs b => hsel i oi cs b hi) (fun cs b => hsel j oj cs b hj) hok (fun h0 _ h2 => hC (hin h0 h2)) (fun h1 => hC (hin (by omega) (by omega))) hm

theorem wpOp_of_mixAt {k i : Nat} {K K' : Act → World → Prop} {Q' : Exit → Act → World → Prop} {a : Act} {w : World} {o : Oper} (hi : ops[i]? = some o) (h : ∀ a w', (k = 1 → C w') → (k ≠ 1 → k ≠ 2 → w' = w) → K a w' → K' a w')
    (hcw : k ≠ 0 → k ≠ 2 → C w) (hh : mixAt P ops C k i K a w) : wpOp P ops Q' i K' a w := by
  rw [mixAt_some hi] at hh
  unfold wpOp
  simp only [hi]
  split
  · rename_i hwd
    rw [if_pos hwd] at hh
    have rd : ∀ v, reads P o a w v → K' (a.put o.dst v) w → o.wp P a w K' Q' := by
      intro v hv hK
      unfold reads readAt at hv
      unfold Oper.wp
      rcases hv with hv | ⟨hv, rfl⟩ <;> rw [hv] <;> exact hK
    refine .inl ?_
    by_cases h0 : k = 0
    · rw [if_pos h0] at hh; obtain ⟨v, h1, h2⟩ := hh; exact rd v (h1 w) (h _ _ (by omega) (fun _ _ => rfl) h2)
    · rw [if_neg h0] at hh
      by_cases h1 : k = 1
      · rw [if_pos h1] at hh; exact wp_noexit (Oper.wp_mono (fun a w ⟨hc, hk⟩ => h _ _ (fun _ => hc) (fun h => absurd h1 h) hk) hh)
      · rw [if_neg h1] at hh
        by_cases h2 : k = 2
        · rw [if_pos h2] at hh; exact wp_noexit (Oper.wp_mono (fun a w hk => h _ _ (fun h => absurd h h1) (fun _ hne => absurd h2 hne) hk) hh)
        · rw [if_neg h2] at hh; obtain ⟨v, h3, h4⟩ := hh; exact rd v (h3 w (hcw h0 h2)) (h _ _ (fun h => absurd h h1) (fun _ _ => rfl) h4)
  · rename_i hwd; rw [if_neg hwd] at hh; exact h _ _ (fun h1 => hcw (by omega) (by omega)) (fun _ _ => rfl) hh

def Closed (md : Region.Mode) (ops : Array Oper) (listed : Array Bool) : Prop :=
  ∀ k ok, ops[k]? = some ok → listed.getD k false = true → ∀ e ∈ ok.after, Region.binds md e = true → listed.getD e.on false = true
def Needs (md : Region.Mode) (ops : Array Oper) (i j : Nat) : Prop :=
  ∀ listed : Array Bool, Closed md ops listed → (∀ o, ops[i]? = some o → ∀ e ∈ o.after, Region.binds md e = true → listed.getD e.on false = true) → listed.getD j false = true

theorem Needs.ready {md : Region.Mode} {i j : Nat} (h : Needs md ops i j) {listed : Array Bool} (hcl : Closed md ops listed) (hi : i ∈ Region.ready md ops listed) : listed.getD j false = true := by
  refine h listed hcl fun o ho => ?_
  obtain ⟨_, o', ho', hall⟩ := mem_ready.1 hi
  have : o' = o := Option.some.inj (ho'.symm.trans ho)
  subst this
  exact hall

theorem getD_tf {listed : Array Bool} {j : Nat} (hj : j < listed.size) (h : listed.getD j false = true) : listed.getD j true ≠ false := by
  simp [hj] at h ⊢; exact h
theorem getD_ft {listed : Array Bool} {j : Nat} (hj : j < listed.size) (h : listed.getD j true ≠ false) : listed.getD j false = true := by
  simp [hj] at h ⊢; exact h

theorem wpAny_of_mix {md : Region.Mode} {Q' : Exit → Act → World → Prop} (hsel : ∀ (j : Nat) (o : Oper) cs b, ops[j]? = some o → o.op ≠ .select cs b)
    (hlow : ∀ i o, ops[i]? = some o → ∀ e ∈ o.after, Region.binds md e = true → e.on < i)
    (hpair : ∀ i j oi oj, j < i → ops[i]? = some oi → ops[j]? = some oj → Needs md ops i j ∨ (oi.apart ops oj = true ∧ okPair (kd i) (kd j) = true))
    (htail : ∀ i j, j < i → i < ops.size → kd j = 2 → kd i = 0 ∨ kd i = 2)
    (hfin : ∀ a w, Q a w → Q' .normal a w) : ∀ (n : Nat) (L : List Nat) (listed : Array Bool) (a : Act) (w : World), L.length = n → listed.size = ops.size → (∀ j, j ∈ L ↔ j < ops.size ∧ listed.getD j true = false) → L.Pairwise (· < ·) →
      Closed md ops listed → (leans kd L → C w) → mixL P ops C kd Q L a w → wpAny P md ops Q' n listed a w := by
  intro n
  induction n with
  | zero =>
    intro L listed a w hn _ hL _ _ _ h
    have hL0 : L = [] := List.eq_nil_of_length_eq_zero hn
    subst hL0
    refine ⟨?_, hfin _ _ h⟩
    apply List.eq_nil_iff_forall_not_mem.2
    intro i hi
    obtain ⟨h0, o, ho, _⟩ := mem_ready.1 hi
    have := (hL i).2 ⟨(Array.getElem?_eq_some_iff.1 ho).1, h0⟩
    cases this
  | succ n ih =>
    intro L listed a w hn hsz hL hsort hcl hC h
    refine ⟨fun hr => ?_, fun i hi => ?_⟩
    · exfalso
      cases L with
      | nil => simp at hn
      | cons i0 L =>
        obtain ⟨hlt, hun⟩ := (hL i0).1 (by simp)
        have : i0 ∈ Region.ready md ops listed := by
          refine mem_ready.2 ⟨hun, ops[i0], by simp [hlt], fun e he hb => ?_⟩
          have hon := hlow i0 ops[i0] (by simp [hlt]) e he hb
          refine getD_ft (by omega) fun hf => ?_
          have hm := (hL e.on).2 ⟨by omega, hf⟩
          rcases List.mem_cons.1 hm with hm | hm
          · omega
          · have := (List.pairwise_cons.1 hsort).1 _ hm; omega
        rw [hr] at this
        cases this
    · obtain ⟨hun, oi, hoi, hall⟩ := mem_ready.1 hi
      have hilt : i < ops.size := (Array.getElem?_eq_some_iff.1 hoi).1
      have him : i ∈ L := (hL i).2 ⟨hilt, hun⟩
      obtain ⟨L1, L2, rfl⟩ := List.append_of_mem him
      have hs := List.pairwise_append.1 hsort
      have hs2 := List.pairwise_cons.1 hs.2.1
      have hb := mixL_bubble (kd := kd) (P := P) (C := C) (Q := Q) hsel hoi L2 L1 a w (fun j hj => ?_) (fun A j B he hj2 => ?_) hC h
      · refine wpOp_of_mixAt hoi (fun a' w' h1 hsame hk => ?_) (fun h0 h2 => hC ⟨i, him, h0, h2⟩) hb
        refine ih (L1 ++ L2) _ a' w' (by simp at hn ⊢; omega) (by simp [hsz]) (fun j => ?_) ?_ ?_ (fun hl => ?_) hk
        · have hji := hL j
          simp only [List.mem_append, List.mem_cons] at hji ⊢
          by_cases hj : j = i
          · subst hj
            constructor
            · rintro (hj | hj)
              · exact absurd (hs.2.2 j hj j (by simp)) (by omega)
              · exact absurd (hs2.1 j hj) (by omega)
            · rintro ⟨_, hx⟩
              exfalso
              simp [Array.getD, hsz, hilt] at hx
          · rw [getD_set_ne true (Ne.symm hj)]
            constructor
            · intro hx; exact hji.1 (by rcases hx with hx | hx <;> simp [hx])
            · intro hx; rcases hji.2 hx with hx | hx | hx
              · exact .inl hx
              · exact absurd hx hj
              · exact .inr hx
        · exact List.pairwise_append.2 ⟨hs.1, hs2.2, fun x hx y hy => hs.2.2 x hx y (by simp [hy])⟩
        · intro k ok hk hlk e he hbd
          by_cases hki : k = i
          · subst hki
            have : ok = oi := Option.some.inj (hk.symm.trans hoi)
            subst this
            exact getD_set_true (hall e he hbd)
          · rw [getD_set_ne false (Ne.symm hki)] at hlk
            exact getD_set_true (hcl k ok hk hlk e he hbd)
        · by_cases k1 : kd i = 1
          · exact h1 k1
          by_cases k2 : kd i = 2
          · exfalso
            obtain ⟨x, hx, hx0, hx2⟩ := hl
            rcases List.mem_append.1 hx with hx | hx
            · have hxlt := hs.2.2 x hx i (by simp)
              have hxm := (hL x).1 (by simp [hx])
              rcases hpair i x oi ops[x] hxlt hoi (by simp [hxm.1]) with hN | ⟨_, hok⟩
              · exact getD_tf (by omega) (hN.ready hcl hi) hxm.2
              · simp [okPair, k2] at hok; omega
            · have hxlt := hs2.1 x hx
              have hxm := (hL x).1 (by simp [hx])
              rcases htail x i hxlt hxm.1 k2 with hz | hz
              · exact hx0 hz
              · exact hx2 hz
          · rw [hsame k1 k2]
            obtain ⟨x, hx, hx'⟩ := hl
            exact hC ⟨x, by rcases List.mem_append.1 hx with hx | hx <;> simp [hx], hx'⟩
      · have hjm := (hL j).1 (by simp [hj])
        have hjlt := hs.2.2 j hj i (by simp)
        refine ⟨ops[j], by simp [hjm.1], ?_⟩
        rcases hpair i j oi ops[j] hjlt hoi (by simp [hjm.1]) with hN | hok
        · exact absurd hjm.2 (getD_tf (by omega) (hN.ready hcl hi))
        · exact hok
      · rintro ⟨x, hx, hx0, hx2⟩
        have hso := hsort
        rw [he] at hso
        have hjx := (List.pairwise_cons.1 (List.pairwise_append.1 hso).2.1).1 x hx
        have hxm := (hL x).1 (by rw [he]; simp [hx])
        rcases htail x j hjx hxm.1 hj2 with hz | hz
        · exact hx0 hz
        · exact hx2 hz

/-! ### The Bool over a region -/
def maskOf (md : Region.Mode) (after : List Edge) (masks : List Nat) : Nat :=
  after.foldl (fun m e => if Region.binds md e then (m ||| 2 ^ e.on) ||| masks.getD e.on 0 else m) 0
def pairB (ops : Array Oper) (o : Oper) (k m : Nat) : Nat → List (Oper × Nat) → Bool
  | _, [] => true
  | j, (oj, kj) :: l => (m.testBit j || (okPair k kj && o.apart ops oj)) && pairB ops o k m (j + 1) l
def goB (md : Region.Mode) (ops : Array Oper) : List Oper → List Nat → List (Oper × Nat) → List Nat → Bool → Bool
  | [], [], _, _, _ => true
  | o :: l, k :: ks, prev, masks, tail =>
    (o.after.toList.all fun e => !Region.binds md e || decide (e.on < prev.length)) && (!tail || k == 0 || k == 2) &&
      pairB ops o k (maskOf md o.after.toList masks) 0 prev && goB md ops l ks (prev ++ [(o, k)]) (masks ++ [maskOf md o.after.toList masks]) (tail || k == 2)
  | _, _, _, _, _ => false
def mixB (ops : Array Oper) (ks : List Nat) : Bool := Region.noSelect ops && goB .any ops ops.toList ks [] [] false

theorem mask_spec {md : Region.Mode} {masks : List Nat} {j : Nat} : ∀ (after : List Edge) (m : Nat), (after.foldl (fun m e => if Region.binds md e then (m ||| 2 ^ e.on) ||| masks.getD e.on 0 else m) m).testBit j = true →
    m.testBit j = true ∨ ∃ e ∈ after, Region.binds md e = true ∧ (e.on = j ∨ (masks.getD e.on 0).testBit j = true)
  | [], _, h => .inl h
  | e :: after, m, h => by
    rw [List.foldl_cons] at h
    rcases mask_spec after _ h with h | ⟨e', he', hx⟩
    · split at h
      · rename_i hb
        rw [Nat.testBit_or, Nat.testBit_or, Bool.or_eq_true, Bool.or_eq_true] at h
        rcases h with (h | h) | h
        · exact .inl h
        · rw [Nat.testBit_two_pow] at h; exact .inr ⟨e, by simp, hb, .inl (by simpa using h)⟩
        · exact .inr ⟨e, by simp, hb, .inr h⟩
      · exact .inl h
    · exact .inr ⟨e', by simp [he'], hx⟩

theorem pairB_spec {o : Oper} {k m : Nat} : ∀ (l : List (Oper × Nat)) (s : Nat), pairB ops o k m s l = true → ∀ j oj kj, l[j]? = some (oj, kj) → m.testBit (s + j) = true ∨ (o.apart ops oj = true ∧ okPair k kj = true)
  | [], _, _, j, oj, kj, h => by simp at h
  | (o', k') :: l, s, hB, j, oj, kj, h => by
    simp only [pairB, Bool.and_eq_true, Bool.or_eq_true] at hB
    cases j with
    | zero =>
      simp at h
      obtain ⟨rfl, rfl⟩ := h
      rcases hB.1 with hz | hz
      · exact .inl hz
      · exact .inr ⟨hz.2, hz.1⟩
    | succ j =>
      have := pairB_spec l (s + 1) hB.2 j oj kj (by simpa using h)
      rwa [show s + 1 + j = s + (j + 1) by omega] at this

/-- all that is asked of the first p operations -/
structure Good (md : Region.Mode) (ops : Array Oper) (prev : List (Oper × Nat)) (masks : List Nat) (tail : Bool) : Prop where
  len : masks.length = prev.length
  at_ : ∀ (i : Nat) (o : Oper) (k : Nat), prev[i]? = some (o, k) → ops[i]? = some o
  low : ∀ (i : Nat) (o : Oper) (k : Nat), prev[i]? = some (o, k) → ∀ e ∈ o.after, Region.binds md e = true → e.on < i
  needs : ∀ (i j : Nat), i < prev.length → (masks.getD i 0).testBit j = true → Needs md ops i j
  pair : ∀ (i j : Nat) (oi oj : Oper) (ki kj : Nat), j < i → prev[i]? = some (oi, ki) → prev[j]? = some (oj, kj) → Needs md ops i j ∨ (oi.apart ops oj = true ∧ okPair ki kj = true)
  tail_ : ∀ (i j : Nat) (oi oj : Oper) (ki kj : Nat), j < i → prev[i]? = some (oi, ki) → prev[j]? = some (oj, kj) → kj = 2 → ki = 0 ∨ ki = 2
  tailed : ∀ (j : Nat) (o : Oper), prev[j]? = some (o, 2) → tail = true

theorem goB_spec {md : Region.Mode} : ∀ (l : List Oper) (ks : List Nat) (prev : List (Oper × Nat)) (masks : List Nat) (tail : Bool), (∀ j, l[j]? = ops[prev.length + j]?) → Good md ops prev masks tail →
    goB md ops l ks prev masks tail = true → ks.length = l.length ∧ ∃ masks' tail', Good md ops (prev ++ l.zip ks) masks' tail'
  | [], [], prev, masks, tail, _, hG, _ => ⟨rfl, masks, tail, by simpa using hG⟩
  | [], _ :: _, _, _, _, _, _, h => by simp [goB] at h
  | _ :: _, [], _, _, _, _, _, h => by simp [goB] at h
  | o :: l, k :: ks, prev, masks, tail, hl, hG, h => by
    simp only [goB, Bool.and_eq_true] at h
    obtain ⟨⟨⟨h1, h2⟩, h3⟩, h4⟩ := h
    have ho : ops[prev.length]? = some o := by simpa using (hl 0).symm
    have hlow : ∀ e ∈ o.after, Region.binds md e = true → e.on < prev.length := fun e he hb => by
      have := List.all_eq_true.1 h1 e (by simpa using he)
      simpa [hb] using this
    have hnew : ∀ j, (maskOf md o.after.toList masks).testBit j = true → Needs md ops prev.length j := by
      intro j hj listed hcl hall
      rcases mask_spec _ _ hj with hz | ⟨e, he, hb, hx⟩
      · simp at hz
      · have he' : e ∈ o.after := by simpa using he
        have hon := hall o ho e he' hb
        rcases hx with rfl | hx
        · exact hon
        · exact hG.needs e.on j (hlow e he' hb) hx listed hcl fun o' ho' e' he'' hb' => hcl e.on o' ho' hon e' he'' hb'
    have hp := pairB_spec prev 0 h3
    have hlast : ∀ (i : Nat) (x : Oper × Nat), (prev ++ [(o, k)])[i]? = some x → (i < prev.length ∧ prev[i]? = some x) ∨ (i = prev.length ∧ x = (o, k)) := by
      intro i x hx
      rcases Nat.lt_trichotomy i prev.length with hlt | heq | hgt
      · left; rw [List.getElem?_append_left hlt] at hx; exact ⟨hlt, hx⟩
      · right; subst heq; simp at hx; exact ⟨rfl, hx.symm⟩
      · rw [List.getElem?_eq_none (by simp; omega)] at hx; cases hx
    have hG' : Good md ops (prev ++ [(o, k)]) (masks ++ [maskOf md o.after.toList masks]) (tail || k == 2) := by
      refine ⟨by simp [hG.len], ?_, ?_, ?_, ?_, ?_, ?_⟩
      · intro i o' k' hx
        rcases hlast i _ hx with ⟨_, hx⟩ | ⟨rfl, hy⟩
        · exact hG.at_ i o' k' hx
        · obtain ⟨h1, h2⟩ := Prod.mk.inj hy; subst h1; exact ho
      · intro i o' k' hx
        rcases hlast i _ hx with ⟨_, hx⟩ | ⟨rfl, hy⟩
        · exact hG.low i o' k' hx
        · obtain ⟨h1, h2⟩ := Prod.mk.inj hy; subst h1; exact hlow
      · intro i j hi hm
        rcases Nat.lt_or_ge i prev.length with hlt | hge
        · rw [List.getD_eq_getElem?_getD, List.getElem?_append_left (by rw [hG.len]; exact hlt), ← List.getD_eq_getElem?_getD] at hm
          exact hG.needs i j hlt hm
        · have : i = prev.length := by simp at hi; omega
          subst this
          rw [List.getD_eq_getElem?_getD, List.getElem?_append_right (by rw [hG.len]; exact Nat.le_refl _), hG.len] at hm
          exact hnew j (by simpa using hm)
      · intro i j oi oj ki kj hji hi hj
        rcases hlast i _ hi with ⟨hlt, hi⟩ | ⟨rfl, hy⟩
        · rcases hlast j _ hj with ⟨_, hj'⟩ | ⟨rfl, hz⟩
          · exact hG.pair i j oi oj ki kj hji hi hj'
          · omega
        · rcases hlast j _ hj with ⟨_, hj'⟩ | ⟨rfl, hz⟩
          · obtain ⟨e1, e2⟩ := Prod.mk.inj hy; subst e1; subst e2
            rcases hp j oj kj hj' with h | h
            · rw [Nat.zero_add] at h; exact .inl (hnew j h)
            · exact .inr h
          · omega
      · intro i j oi oj ki kj hji hi hj hk2
        rcases hlast i _ hi with ⟨hlt, hi⟩ | ⟨rfl, hy⟩
        · rcases hlast j _ hj with ⟨_, hj'⟩ | ⟨rfl, hz⟩
          · exact hG.tail_ i j oi oj ki kj hji hi hj' hk2
          · omega
        · rcases hlast j _ hj with ⟨_, hj'⟩ | ⟨rfl, hz⟩
          · obtain ⟨e1, e2⟩ := Prod.mk.inj hy; subst e1; subst e2
            subst hk2
            have ht := hG.tailed j oj hj'
            simp [ht] at h2
            omega
          · omega
      · intro j o' hj
        rcases hlast j _ hj with ⟨_, hj'⟩ | ⟨rfl, hz⟩
        · simp [hG.tailed j o' hj']
        · obtain ⟨h1, h2⟩ := Prod.mk.inj hz; simp [← h2]
    obtain ⟨e1, m', t', hG2⟩ := goB_spec l ks (prev ++ [(o, k)]) _ _ (fun j => by
      have := hl (j + 1)
      simp only [List.getElem?_cons_succ] at this
      rw [this]; simp; congr 1; omega) hG' h4
    exact ⟨by simp [e1], m', t', by simpa using hG2⟩

theorem Good.nil {md : Region.Mode} : Good md ops [] [] false := by
  refine ⟨rfl, ?_, ?_, ?_, ?_, ?_, ?_⟩ <;> intros <;> simp_all

/-! ### The lexical walk -/
def wpMix (P : Program) (ops : Array Oper) (C : World → Prop) (Q : Act → World → Prop) : List Nat → List Oper → Act → World → Prop
  | k :: ks, o :: l, a, w => if Region.wanted o (yielded ops a.tmps) then
      (if k = 0 then ∃ v, (∀ w, reads P o a w v) ∧ wpMix P ops C Q ks l (a.put o.dst v) w
       else if k = 1 then o.wp P a w (fun a' w' => C w' ∧ wpMix P ops C Q ks l a' w') (fun _ _ _ => False)
       else if k = 2 then o.wp P a w (wpMix P ops C Q ks l) (fun _ _ _ => False)
       else ∃ v, (∀ w, C w → reads P o a w v) ∧ wpMix P ops C Q ks l (a.put o.dst v) w)
    else wpMix P ops C Q ks l (a.put o.dst undef) w
  | _, _, a, w => Q a w

theorem mixL_of_wpMix {kd : Nat → Nat} : ∀ (ks : List Nat) (l : List Oper) (p : Nat), ks.length = l.length → (∀ j, l[j]? = ops[p + j]?) → (∀ j, j < ks.length → kd (p + j) = ks.getD j 0) → ∀ a w,
    wpMix P ops C Q ks l a w → mixL P ops C kd Q (List.range' p l.length) a w
  | [], [], _, _, _, _, a, w, h => h
  | [], _ :: _, _, h, _, _, _, _, _ => by simp at h
  | _ :: _, [], _, h, _, _, _, _, _ => by simp at h
  | k :: ks, o :: l, p, hlen, hl, hk, a, w, h => by
    have ho : ops[p]? = some o := by simpa using (hl 0).symm
    have hkp : kd p = k := by simpa using hk 0 (by simp)
    have ih := mixL_of_wpMix (kd := kd) ks l (p + 1) (by simpa using hlen) (fun j => by have := hl (j + 1); simp only [List.getElem?_cons_succ] at this; rw [this]; congr 1; omega)
      (fun j hj => by have := hk (j + 1) (by simp; omega); rw [show p + 1 + j = p + (j + 1) by omega, this]; simp)
    simp only [List.length_cons, List.range'_succ, mixL]
    rw [mixAt_some ho, hkp]
    unfold wpMix at h
    split
    · rename_i hw
      rw [if_pos hw] at h
      by_cases h0 : k = 0
      · rw [if_pos h0] at h ⊢; obtain ⟨v, h1, h2⟩ := h; exact ⟨v, h1, ih _ _ h2⟩
      rw [if_neg h0] at h ⊢
      by_cases h1 : k = 1
      · rw [if_pos h1] at h ⊢; exact Oper.wp_mono (fun a w hh => ⟨hh.1, ih _ _ hh.2⟩) h
      rw [if_neg h1] at h ⊢
      by_cases h2 : k = 2
      · rw [if_pos h2] at h ⊢; exact Oper.wp_mono (fun a w hh => ih _ _ hh) h
      · rw [if_neg h2] at h ⊢; obtain ⟨v, h1, h2⟩ := h; exact ⟨v, h1, ih _ _ h2⟩
    · rename_i hw; rw [if_neg hw] at h; exact ih _ _ h

/-- **A region that draws its order, walked once in the order of the text.** -/
theorem wp_region_mix {id : Nat} {Q' : Exit → Act → World → Prop} {a : Act} {w : World} {l : List Oper} (ks : List Nat) (C : World → Prop) (hm : P.follows .mixedOrders = true) (hB : mixB l.toArray ks = true) (hC : C w.drew)
    (h : wpMix P l.toArray C (fun a w => Q' .normal a w) ks l a w.drew) : (Code.region id l.toArray true).wp P Q' a w := by
  simp only [mixB, Bool.and_eq_true] at hB
  obtain ⟨hsel, hgo⟩ := hB
  obtain ⟨hlen, m', t', hG⟩ := goB_spec (ops := l.toArray) l ks [] [] false (by simp) Good.nil (by simpa using hgo)
  rw [List.nil_append] at hG
  have hat : ∀ (i : Nat) (o : Oper), l[i]? = some o → (l.zip ks)[i]? = some (o, ks.getD i 0) := by
    intro i o ho
    obtain ⟨hi, rfl⟩ := List.getElem?_eq_some_iff.1 ho
    simp [hlen, hi]
  have hkn : ∀ i : Nat, i < l.length → ∃ o, l[i]? = some o := fun i hi => ⟨l[i], by simp [hi]⟩
  refine wp_region_any hm ?_
  refine wpAny_of_mix (C := C) (kd := fun i => ks.getD i 0) (Q := fun a w => Q' .normal a w) (md := .any) (Region.noSelect_spec hsel) ?_ ?_ ?_ (fun _ _ h => h) l.toArray.size (List.range l.length) _ a _ (by simp) (by simp) ?_ List.pairwise_lt_range ?_ (fun _ => hC) ?_
  · intro i o ho
    exact hG.low i o _ (hat i o (by simpa using ho))
  · intro i j oi oj hji hi hj
    exact hG.pair i j oi oj _ _ hji (hat i oi (by simpa using hi)) (hat j oj (by simpa using hj))
  · intro i j hji hi hk
    obtain ⟨oi, hoi⟩ := hkn i (by simpa using hi)
    obtain ⟨oj, hoj⟩ := hkn j (by simp at hi; omega)
    exact hG.tail_ i j oi oj _ _ hji (hat i oi hoi) (hat j oj hoj) hk
  · intro j
    simp only [List.mem_range, List.size_toArray]
    constructor
    · intro hj; refine ⟨hj, ?_⟩; simp [Array.getD, hj]
    · exact fun h => h.1
  · intro k ok hk hl
    simp [Array.getD] at hl
  · have := mixL_of_wpMix (P := P) (ops := l.toArray) (C := C) (Q := fun a w => Q' .normal a w) (kd := fun i => ks.getD i 0) ks l 0 hlen (by simp) (by simp) a w.drew h
    rw [List.range_eq_range']
    exact this


theorem wpMix_nil {a : Act} {w : World} (h : Q a w) : wpMix P ops C Q [] [] a w := by unfold wpMix; exact h

theorem wpMix_pure {o : Oper} {ks : List Nat} {l : List Oper} {a : Act} {w : World} (hq : quietOp o = true) (h : wpQuiet P ops (fun _ => True) (fun a' => wpMix P ops C Q ks l a' w) [o] a) : wpMix P ops C Q (0 :: ks) (o :: l) a w := by
  unfold wpMix
  simp only [wpQuiet] at h
  split
  · rename_i hw
    rw [if_pos hw] at h
    rw [if_pos rfl]
    obtain ⟨v, h1, h2⟩ := h
    exact ⟨v, fun w => read_of_quiet hq (h1 w trivial), h2⟩
  · rename_i hw; rw [if_neg hw] at h; exact h

theorem wpMix_read {o : Oper} {ks : List Nat} {l : List Oper} {a : Act} {w : World} (hq : quietOp o = true) (h : wpQuiet P ops C (fun a' => wpMix P ops C Q ks l a' w) [o] a) : wpMix P ops C Q (3 :: ks) (o :: l) a w := by
  unfold wpMix
  simp only [wpQuiet] at h
  split
  · rename_i hw
    rw [if_pos hw] at h
    rw [if_neg (by decide), if_neg (by decide), if_neg (by decide)]
    obtain ⟨v, h1, h2⟩ := h
    exact ⟨v, fun w hc => read_of_quiet hq (h1 w hc), h2⟩
  · rename_i hw; rw [if_neg hw] at h; exact h

/-- what stands behind a changer or a tail operation -/
def thenK (K : Act → World → Prop) : Exit → Act → World → Prop
  | .normal, a, w => K a w
  | _, _, _ => False

theorem wp_of_single {o : Oper} {K : Act → World → Prop} {a : Act} {w : World} (hw : Region.wanted o (yielded ops a.tmps) = true) (h : wpList P ops (thenK K) [o] a w) : o.wp P a w K (fun _ _ _ => False) := by
  simp only [wpList, hw, if_true] at h
  rcases h with h | ⟨_, _, _, h⟩
  · unfold Oper.wp at *
    generalize (execOp a.eval o).run P w = r at *
    cases r with
    | ok n w' =>
      cases n <;> simp only [Oper.upon] at h ⊢ <;> first | exact h | skip
    | halt x w' => cases x <;> simp only [Oper.upon] at h ⊢ <;> exact h
  · exact (h : False).elim

theorem wpMix_chg {o : Oper} {ks : List Nat} {l : List Oper} {a : Act} {w : World} (hw : Region.wanted o (yielded ops a.tmps) = true)
    (h : ∀ K : Act → World → Prop, (∀ a' w', C w' → wpMix P ops C Q ks l a' w' → K a' w') → wpList P ops (thenK K) [o] a w) : wpMix P ops C Q (1 :: ks) (o :: l) a w := by
  unfold wpMix
  rw [if_pos hw, if_neg (by decide), if_pos rfl]
  exact wp_of_single hw (h _ fun a' w' hc hk => ⟨hc, hk⟩)

theorem wpMix_tail {o : Oper} {ks : List Nat} {l : List Oper} {a : Act} {w : World} (hw : Region.wanted o (yielded ops a.tmps) = true)
    (h : ∀ K : Act → World → Prop, (∀ a' w', wpMix P ops C Q ks l a' w' → K a' w') → wpList P ops (thenK K) [o] a w) : wpMix P ops C Q (2 :: ks) (o :: l) a w := by
  unfold wpMix
  rw [if_pos hw, if_neg (by decide), if_neg (by decide), if_pos rfl]
  exact wp_of_single hw (h _ fun a' w' hk => hk)

theorem wpMix_skip {o : Oper} {k : Nat} {ks : List Nat} {l : List Oper} {a : Act} {w : World} (hw : Region.wanted o (yielded ops a.tmps) = false)
    (h : wpMix P ops C Q ks l (a.put o.dst undef) w) : wpMix P ops C Q (k :: ks) (o :: l) a w := by
  unfold wpMix
  rw [if_neg (by rw [hw]; exact Bool.false_ne_true)]
  exact h
end
attribute [irreducible] wpMix
end Mix

/-! ### The class of worlds: the blocks that lie below are as they were -/
structure Ext (w0 : World) where
  w : World
  below : Below w0.heap.size w0 w

instance (w0 : World) : Nonempty (Ext w0) := ⟨⟨w0, Below.refl _ _⟩⟩

def InExt (w0 w' : World) : Prop := ∃ x : Ext w0, w' = x.w

theorem InExt.mk {w0 w' : World} (h : Below w0.heap.size w0 w') : InExt w0 w' := ⟨⟨w', h⟩, rfl⟩
theorem InExt.out {w0 w' : World} (h : InExt w0 w') : Below w0.heap.size w0 w' := by obtain ⟨x, rfl⟩ := h; exact x.below
theorem InExt.drew (w0 : World) : InExt w0 w0.drew := .mk ⟨rfl, rfl, rfl, Nat.le_refl _, fun _ _ => rfl⟩
theorem Ext.cell {w0 : World} {p : Addr} {v : Value} (h : w0.cell? p = some v) (x : Ext w0) : x.w.cell? p = some v := by
  rw [← h]; exact x.below.cell (World.block_lt_of_cell? w0 _ h)

end Go.Proofs.YtebjpmmgdkepjaaGreatDoor
