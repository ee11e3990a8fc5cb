/-
  Parts of the proof, one behind the other: contracts of the functions that the law reaches, and plain laws.
-/
import Derived.Handed
import Derived.SizedLaws
import Derived.Stop.LaidErr
import Derived.Shelf.Vars
import Derived.WalkKit
import Derived.Below
import Derived.Deep.Draws
import Derived.Lib.Hide
import Derived.Laws.MakeOwn
import Derived.Laws.Rows
import Derived.Laws.OwnMore
import Derived.Deep.QuietTactic
/-
  A laid variable of an interface's type holds an interface's value; the plain wrap with a hypothesis on the world and with the world's shape. Nothing of the program.
-/
namespace Go.Proofs.YtebjpmmgdkepjaaGreatDoor
open Go.RowKit Go.ChangeShapes

theorem laid_ifaceR {P : Program} {n nm : String} {d : DataW Unit} {r : List (String × DataW Unit)} {W : World} {g : Nat} {ti : TypeId} {ms : Array (String × TypeId)}
    (h : laidMet P ((n, .iface nm d) :: r) W) (hg : P.globalNamed n = some g) (ht : (P.globals[g]?).map (·.type) = some ti) (hi : P.underlying ti = some (.interface ms)) :
    ∃ te pe, W.cell? ⟨g, 0, none⟩ = some (.iface te pe) := by
  obtain ⟨ps, ⟨g0, t0, cs0, f0, p0, q0, hg0, ht0, hv0, hd0, _, e0⟩, _, _⟩ := h
  obtain rfl := Option.some.inj (hg.symm.trans hg0)
  obtain rfl := Option.some.inj (ht.symm.trans ht0)
  obtain ⟨_, u, v, hc, _, _⟩ := iface_of_trod hi hd0
  refine ⟨u, v, ?_⟩
  rw [World.var?_cell hg hv0 0]
  obtain ⟨l⟩ := cs0
  rw [show l = [.iface u v] from hc]; rfl
section
variable {H : Type} {enc : TypeId × Value → H}
theorem handed_and_shaped {a : Assume} {C : Checked} {os : Os} {f : FuncId} {fn : Func} {s : ChangeSpec} {conds : List PathCond} {apart fresh handsOn again : Bool} {X : World → Array Value → Prop}
    (hX : ∀ (w w' : World) (args : Array Value), w.heap = w'.heap → X w args → X w' args)
    (own : ownKnob C.prog.godebug = none) (started : os.Started) (noInit : C.prog.inits.idxOf? f = none) (hfn : C.prog.funcs[f]? = some fn)
    (witness : ∃ (w : World) (tape : Tape) (i : Input), w.os = os ∧ (w.forCall tape i).Shaped C.prog ∧ i.vars = [] ∧ Input.okWide C.prog (w.forCall tape i) .any w.heap.size f i ∧
      ((s.pre enc C.prog fn conds apart (w.forCall tape i).memory i.args ∧ X (w.forCall tape i).memory i.args) ∧ sizedMet enc C.prog fn (OpenSpec.ofChange s) apart (w.forCall tape i).memory i.args) ∧ a.holds C.prog (lone (Frame.enter C.prog f i.args .normal) [] (w.forCall tape i)))
    (contract : ∀ (W : World) (base : Nat) (args : Array Value) (ds gs : List (DataW H)) (before : List MemPlace),
      (∀ (j : Nat) t v, fn.params[j]? = some t → args[j]? = some v → Value.okWide C.prog W .any base t v) →
      DataW.Whole enc C.prog fn.params.toList s.vars apart W args.toList ds gs before →
      conds.all (PathCond.test C.prog ⟨fn.params.toList, ds, s.plain.varTypes C.prog, gs⟩) = true →
      (DataW.weightsEach C.prog (fn.params.toList ++ s.plain.varTypes C.prog) (ds ++ gs)).all (· ≤ reachBytes) = true → X W args →
      W.ShapedOpen C.prog →
      a.holds C.prog (lone (Frame.enter C.prog f args .normal) [] W) →
      Calls C.prog f args W fun e W' => ∃ v, e = .returned v ∧ s.post enc C.prog fn apart fresh handsOn again W args v W') :
    ReturnsInHanded a C os f .any (fun w args => (s.pre enc C.prog fn conds apart w args ∧ X w args) ∧ sizedMet enc C.prog fn (OpenSpec.ofChange s) apart w args) (s.post enc C.prog fn apart fresh handsOn again) := by
  refine returnsInHanded_of_calls own started noInit witness ?_
  intro w tape i _ hsh _ hok hpre hholds
  obtain ⟨_, _, _, fn', hfn', _, _, _, _, hval⟩ := hok
  have e : fn' = fn := Option.some.inj (hfn'.symm.trans hfn)
  subst e
  obtain ⟨⟨⟨ds, gs, before, hw, hc⟩, hx⟩, hz⟩ := hpre
  have hw' := DataW.Whole.of_heap (w' := w.forCall tape i) (by rfl) hw
  refine (contract (w.forCall tape i) w.heap.size i.args ds gs before hval hw' hc (hz.weights hw) (hX _ _ _ (by rfl) hx) hsh hholds).mono fun e W' ⟨v, he, hp⟩ => ?_
  subst he
  exact ChangeSpec.post_blind hp
end
end Go.Proofs.YtebjpmmgdkepjaaGreatDoor
/-
  Plain words for memory: a slice that reads as a list of values, a block that is known whole, rows that are filled from the front. Nothing of the program.
-/
namespace Go.Proofs.YtebjpmmgdkepjaaGreatDoor
open Go.RowKit

theorem ret_eq {a b : Value} (h : a = b) : Ending.returned a = .returned b := by rw [h]

theorem block_add (a : Addr) (n : Nat) : (a.add n).block = a.block := by unfold Addr.add; split <;> rfl
theorem add_add (a : Addr) (i j : Nat) : (a.add i).add j = a.add (i + j) := by
  unfold Addr.add
  by_cases hi : i = 0 <;> by_cases hj : j = 0 <;> simp [hi, hj, Nat.add_assoc]
theorem head_add (g k : Nat) : (⟨g, 0, none⟩ : Addr).add k = ⟨g, k, none⟩ := by
  unfold Addr.add; split <;> simp_all

theorem drop_at {α : Type} {xs : List α} {k : Nat} {x : α} (h : xs[k]? = some x) : xs.drop k = x :: xs.drop (k + 1) := by
  obtain ⟨hk, rfl⟩ := List.getElem?_eq_some_iff.1 h
  exact List.drop_eq_getElem_cons hk
theorem take_at {α : Type} {xs : List α} {k : Nat} {x : α} (h : xs[k]? = some x) : xs.take (k + 1) = xs.take k ++ [x] := by
  obtain ⟨hk, rfl⟩ := List.getElem?_eq_some_iff.1 h
  exact List.take_succ_eq_append_getElem hk

abbrev i64 (x : Int) : Value := .int .i64 x

/-! ### 'Below', once more -/
theorem below_drew {B : Nat} {a w : World} (h : Below B a w) : Below B a w.drew := ⟨h.os, h.tape, h.output, h.size, h.block⟩
theorem below_drewN {B : Nat} {a w : World} (h : Below B a w) (n : Nat) : Below B a (w.drewN n) := ⟨h.os, h.tape, h.output, h.size, h.block⟩
theorem below_of_drew {w w' : World} (h : Below w.drew.heap.size w.drew w') : Below w.heap.size w w' := ⟨h.os, h.tape, h.output, h.size, h.block⟩
theorem below_size {w : World} : Below w.heap.size w w := Below.refl _ _
theorem below_chain {B : Nat} {a b c : World} (h : Below B a b) (hB : B ≤ b.heap.size) (k : Below b.heap.size b c) : Below B a c := h.trans (k.mono hB)

theorem bcell {W w1 : World} (hb : Below W.heap.size W w1) : (∀ b o, b < W.heap.size → w1.cell? ⟨b, o, none⟩ = W.cell? ⟨b, o, none⟩) ∧ (∀ b o, b < W.heap.size → w1.frozen? ⟨b, o, none⟩ = W.frozen? ⟨b, o, none⟩) :=
  ⟨fun b o h => hb.cell (p := ⟨b, o, none⟩) h, fun b o h => hb.frozen (p := ⟨b, o, none⟩) h⟩

/-! ### A cell that is known stays known -/
theorem keepc {W w' : World} {p : Addr} {v : Value} (hb : Below W.heap.size W w') (h : W.cell? p = some v) : w'.cell? p = some v :=
  (hb.cell (World.block_lt_of_cell? W _ h)).trans h
theorem keepa {W : World} {p : Addr} {v : Value} (o : Obj) (h : W.cell? p = some v) : (W.alloc o).cell? p = some v :=
  keepc (below_size.alloc (Nat.le_refl _) o) h
theorem keepB {B : Nat} {W w' : World} {p : Addr} {v : Value} (hb : Below B W w') (hp : p.block < B) (h : W.cell? p = some v) : w'.cell? p = some v := (hb.cell hp).trans h
theorem new_cell (w : World) (cs : Array Value) (t : TypeId) (i : Nat) : (w.alloc (.cells cs t)).cell? ⟨w.heap.size, i, none⟩ = cs[i]? := cell_of_row _ _ i cs t (0, 0) (heap_alloc_new w _)

theorem quiet_left {P : Program} {f : FuncId} {args : Array Value} {w : World} {n : Nat} {v : Value}
    (h : Calls P f args (w.drewN n) fun e w' => e = .returned v ∧ w.drewN n = w') : Calls P f args (w.drewN n) fun e w'' => e = .returned v ∧ ∃ m, w'' = w.drewN m :=
  h.mono fun _ _ ⟨he, hm⟩ => ⟨he, n, hm.symm⟩

theorem quiet_add_left {P : Program} {f : FuncId} {args : Array Value} {w : World} {a n : Nat} {v : Value}
    (h : Calls P f args (w.drewN (a + n)) fun e w' => e = .returned v ∧ w.drewN (a + n) = w') : Calls P f args (w.drewN (a + n)) fun e w'' => e = .returned v ∧ ∃ m, w'' = w.drewN (a + m) :=
  h.mono fun _ _ ⟨he, hm⟩ => ⟨he, n, hm.symm⟩
theorem quiet_add {P : Program} {f : FuncId} {args : Array Value} {w : World} {a n : Nat} {v : Value}
    (h : Calls P f args (w.drewN (a + n)) fun e w' => e = .returned v ∧ ∃ m, w' = (w.drewN (a + n)).drewN m) : Calls P f args (w.drewN (a + n)) fun e w'' => e = .returned v ∧ ∃ m, w'' = w.drewN (a + m) :=
  h.mono fun _ _ ⟨he, m, hm⟩ => ⟨he, n + m, by rw [hm, World.drewN_drewN, Nat.add_assoc]⟩

/-- nothing but draws -/
def Qt (w w' : World) : Prop := ∃ m, w' = w.drewN m
theorem Qt.refl (w : World) : Qt w w := ⟨0, rfl⟩
theorem Qt.drewN {w w' : World} (h : Qt w w') (k : Nat) : Qt w (w'.drewN k) := by obtain ⟨m, rfl⟩ := h; exact ⟨m + k, by rw [World.drewN_drewN]⟩
theorem Qt.drew {w w' : World} (h : Qt w w') : Qt w w'.drew := h.drewN 1
theorem Qt.below {w w' : World} (h : Qt w w') (B : Nat) : Below B w w' := by obtain ⟨m, rfl⟩ := h; exact below_drewN (Below.refl _ _) m
theorem Qt.trans {a b c : World} (h : Qt a b) (k : Qt b c) : Qt a c := by obtain ⟨m, rfl⟩ := k; exact h.drewN m

/-! ### A slice that reads as a list -/
def Rd (w : World) (A : Option Addr) (n : Nat) (vs : List Value) : Prop :=
  vs.length = n ∧ (0 < n → ∃ ad : Addr, A = some ad ∧ ad.block < w.heap.size ∧ ∀ j v, vs[j]? = some v → w.cell? (ad.add j) = some v)

section
variable {w w' : World} {n : Nat} {A : Option Addr} {vs : List Value}
theorem Rd.nil {A : Option Addr} : Rd w A 0 [] := ⟨rfl, fun h => absurd h (by omega)⟩
theorem Rd.at_ {k : Nat} (h : Rd w A n vs) (hk : k < n) : ∃ ad v, A = some ad ∧ ad.block < w.heap.size ∧ vs[k]? = some v ∧ w.cell? (ad.add k) = some v := by
  obtain ⟨ad, e, hb, hc⟩ := h.2 (by omega)
  have hl : k < vs.length := by have := h.1; omega
  exact ⟨ad, vs[k], e, hb, List.getElem?_eq_getElem hl, hc k _ (List.getElem?_eq_getElem hl)⟩
theorem Rd.below (h : Rd w A n vs) (hb : Below w.heap.size w w') : Rd w' A n vs :=
  ⟨h.1, fun hn => by
    obtain ⟨ad, e, hlt, hc⟩ := h.2 hn
    exact ⟨ad, e, Nat.lt_of_lt_of_le hlt hb.size, fun j u hu => (hb.cell (p := ad.add j) (by rw [block_add]; exact hlt)).trans (hc j u hu)⟩⟩
/-- the slice lies below B, and what lies below B is as it was -/
theorem Rd.belowB {B : Nat} (h : Rd w A n vs) (hB : ∀ ad, 0 < n → A = some ad → ad.block < B) (hb : Below B w w') : Rd w' A n vs :=
  ⟨h.1, fun hn => by
    obtain ⟨ad, e, hlt, hc⟩ := h.2 hn
    exact ⟨ad, e, Nat.lt_of_lt_of_le hlt hb.size, fun j u hu => (hb.cell (p := ad.add j) (by rw [block_add]; exact hB ad hn e)).trans (hc j u hu)⟩⟩
theorem Rd.blocks (h : Rd w A n vs) (ad : Addr) (hn : 0 < n) (e : A = some ad) : ad.block < w.heap.size := by
  obtain ⟨ad', e', hlt, _⟩ := h.2 hn
  rw [e] at e'; injection e' with e'; rw [e']; exact hlt
theorem Rd.alloc (h : Rd w A n vs) (o : Obj) : Rd (w.alloc o) A n vs := h.below (below_size.alloc (Nat.le_refl _) o)
theorem Rd.drew (h : Rd w A n vs) : Rd w.drew A n vs := h
theorem Rd.drewN (h : Rd w A n vs) (k : Nat) : Rd (w.drewN k) A n vs := h
end

/-- a slice of int64 that reads as a list of numbers -/
def RdI (w : World) (A : Option Addr) (n : Nat) (xs : List Int) : Prop := Rd w A n (xs.map i64)
section
variable {w w' : World} {n : Nat} {A : Option Addr} {xs : List Int}
theorem RdI.len (h : RdI w A n xs) : xs.length = n := by simpa using h.1
theorem RdI.at_ {k : Nat} (h : RdI w A n xs) (hk : k < n) : ∃ ad x, A = some ad ∧ ad.block < w.heap.size ∧ xs[k]? = some x ∧ w.cell? (ad.add k) = some (.int .i64 x) := by
  obtain ⟨ad, v, e, hb, hv, hc⟩ := Rd.at_ h hk
  rw [List.getElem?_map] at hv
  obtain ⟨x, hx, rfl⟩ := Option.map_eq_some_iff.1 hv
  exact ⟨ad, x, e, hb, hx, hc⟩
theorem RdI.set_far {g : Nat} (h : RdI w (some ⟨g, 0, none⟩) n xs) {p : Addr} (hp : g ≠ p.block) (u : Value) : RdI (w.setCell p u) (some ⟨g, 0, none⟩) n xs :=
  ⟨h.1, fun hn => by
    obtain ⟨ad, e, hlt, hc⟩ := h.2 hn
    injection e with e; subst e
    refine ⟨_, rfl, by simpa using hlt, fun j v hj => ?_⟩
    rw [head_add]
    have := hc j v hj
    rw [head_add] at this
    rw [World.cell?_setCell_other _ _ _ _ (fun e => hp (by rw [e]))]; exact this⟩
theorem RdI.nil {A : Option Addr} : RdI w A 0 [] := Rd.nil
theorem RdI.below (h : RdI w A n xs) (hb : Below w.heap.size w w') : RdI w' A n xs := Rd.below h hb
theorem RdI.alloc (h : RdI w A n xs) (o : Obj) : RdI (w.alloc o) A n xs := Rd.alloc h o
theorem RdI.drew (h : RdI w A n xs) : RdI w.drew A n xs := h
theorem RdI.drewN (h : RdI w A n xs) (k : Nat) : RdI (w.drewN k) A n xs := h
end

/-- a slice of bool that reads as a list -/
def RdB (w : World) (A : Option Addr) (n : Nat) (xs : List Bool) : Prop := Rd w A n (xs.map Value.bool)
section
variable {w w' : World} {n : Nat} {A : Option Addr} {xs : List Bool}
theorem RdB.len (h : RdB w A n xs) : xs.length = n := by simpa using h.1
theorem RdB.at_ {k : Nat} (h : RdB w A n xs) (hk : k < n) : ∃ ad x, A = some ad ∧ ad.block < w.heap.size ∧ xs[k]? = some x ∧ w.cell? (ad.add k) = some (.bool x) := by
  obtain ⟨ad, v, e, hb, hv, hc⟩ := Rd.at_ h hk
  rw [List.getElem?_map] at hv
  obtain ⟨x, hx, rfl⟩ := Option.map_eq_some_iff.1 hv
  exact ⟨ad, x, e, hb, hx, hc⟩
theorem RdB.alloc (h : RdB w A n xs) (o : Obj) : RdB (w.alloc o) A n xs := Rd.alloc h o
theorem RdB.below (h : RdB w A n xs) (hb : Below w.heap.size w w') : RdB w' A n xs := Rd.below h hb
end

theorem up1 {w w' : World} {o : Obj} (hb : Below (w.alloc o).heap.size (w.alloc o) w') : Below w.heap.size w w' := (below_size.alloc (Nat.le_refl _) o).trans (hb.mono (by simp))
theorem up2 {w w' : World} {o p : Obj} (hb : Below ((w.alloc o).alloc p).heap.size ((w.alloc o).alloc p) w') : Below w.heap.size w w' := up1 (up1 hb)
theorem up3 {w w' : World} {o p q : Obj} (hb : Below (((w.alloc o).alloc p).alloc q).heap.size (((w.alloc o).alloc p).alloc q) w') : Below w.heap.size w w' := up1 (up2 hb)
theorem up4 {w w' : World} {o p q r : Obj} (hb : Below ((((w.alloc o).alloc p).alloc q).alloc r).heap.size ((((w.alloc o).alloc p).alloc q).alloc r) w') : Below w.heap.size w w' := up1 (up3 hb)
/-! ### A slice that may be written, and that lies in blocks of a range -/
/-- all blocks but those from lo to hi are as they were -/
structure KeepR (lo hi : Nat) (w w' : World) : Prop where
  os : w'.os = w.os
  tape : w'.tape = w.tape
  output : w'.output = w.output
  size : w.heap.size ≤ w'.heap.size
  block : ∀ k, k < w.heap.size → (k < lo ∨ hi ≤ k) → w'.heap[k]? = w.heap[k]?
theorem KeepR.refl (lo hi : Nat) (w : World) : KeepR lo hi w w := ⟨rfl, rfl, rfl, Nat.le_refl _, fun _ _ _ => rfl⟩
theorem KeepR.below {lo hi : Nat} {w w' : World} (h : KeepR lo hi w w') {B : Nat} (hB : B ≤ lo) (hB' : B ≤ w.heap.size) : Below B w w' := ⟨h.os, h.tape, h.output, h.size, fun k hk => h.block k (by omega) (.inl (by omega))⟩
theorem KeepR.trans {lo hi : Nat} {a b c : World} (h : KeepR lo hi a b) (k : KeepR lo hi b c) : KeepR lo hi a c :=
  ⟨k.os.trans h.os, k.tape.trans h.tape, k.output.trans h.output, Nat.le_trans h.size k.size, fun i hi hx => (k.block i (Nat.lt_of_lt_of_le hi h.size) hx).trans (h.block i hi hx)⟩
theorem KeepR.of_below {lo hi : Nat} {w w' : World} (h : Below w.heap.size w w') : KeepR lo hi w w' := ⟨h.os, h.tape, h.output, h.size, fun k hk _ => h.block k hk⟩
theorem KeepR.setCell {lo hi : Nat} {a w : World} (h : KeepR lo hi a w) {p : Addr} (h1 : lo ≤ p.block) (h2 : p.block < hi) (u : Value) : KeepR lo hi a (w.setCell p u) :=
  ⟨h.os, h.tape, h.output, by simpa using h.size, fun k hk hx => (Below.heap_setCell w p u k (by omega)).trans (h.block k hk hx)⟩
theorem KeepR.wider {lo hi lo' hi' : Nat} {w w' : World} (h : KeepR lo hi w w') (h1 : lo' ≤ lo) (h2 : hi ≤ hi') : KeepR lo' hi' w w' :=
  ⟨h.os, h.tape, h.output, h.size, fun k hk hx => h.block k hk (by omega)⟩
theorem KeepR.cell {lo hi : Nat} {w w' : World} {p : Addr} {v : Value} (h : KeepR lo hi w w') (hp : p.block < lo ∨ hi ≤ p.block) (hc : w.cell? p = some v) : w'.cell? p = some v :=
  (World.cell?_of_block (h.block p.block (World.block_lt_of_cell? w _ hc) hp)).trans hc
theorem KeepR.up1 {lo hi : Nat} {w w' : World} {o : Obj} (h : KeepR lo hi (w.alloc o) w') : KeepR lo hi w w' := (KeepR.of_below (below_size.alloc (Nat.le_refl _) o)).trans h
theorem Rd.keep {w w' : World} {n : Nat} {A : Option Addr} {vs : List Value} {lo hi : Nat} (h : Rd w A n vs) (hk : KeepR lo hi w w') (hx : ∀ ad, 0 < n → A = some ad → ad.block < lo ∨ hi ≤ ad.block) : Rd w' A n vs :=
  ⟨h.1, fun hn => by
    obtain ⟨ad, e, hlt, hc⟩ := h.2 hn
    exact ⟨ad, e, Nat.lt_of_lt_of_le hlt hk.size, fun j u hu => hk.cell (by rw [block_add]; exact hx ad hn e) (hc j u hu)⟩⟩

theorem Rd.keepU {w w' : World} {n : Nat} {A : Option Addr} {vs : List Value} {lo hi B : Nat} (h : Rd w A n vs) (hB : ∀ ad, 0 < n → A = some ad → ad.block < B) (hk : KeepR lo hi w w') (hx : B ≤ lo) : Rd w' A n vs :=
  h.keep hk fun ad hn e => .inl (by have := hB ad hn e; omega)
/-- a slice that reads as a list and lies below block B -/
def RdU (w : World) (B : Nat) (A : Option Addr) (n : Nat) (vs : List Value) : Prop := Rd w A n vs ∧ ∀ ad : Addr, 0 < n → A = some ad → ad.block < B
theorem RdU.mk' {w : World} {n : Nat} {A : Option Addr} {vs : List Value} (h : Rd w A n vs) : RdU w w.heap.size A n vs := ⟨h, fun ad hn e => h.blocks ad hn e⟩
theorem RdU.below {w w' : World} {B n : Nat} {A : Option Addr} {vs : List Value} (h : RdU w B A n vs) (hb : Below w.heap.size w w') : RdU w' B A n vs := ⟨h.1.below hb, h.2⟩
theorem RdU.keep {w w' : World} {B n : Nat} {A : Option Addr} {vs : List Value} {lo hi : Nat} (h : RdU w B A n vs) (hk : KeepR lo hi w w') (hx : B ≤ lo) : RdU w' B A n vs := ⟨h.1.keepU h.2 hk hx, h.2⟩
def Wr (w : World) (lo hi : Nat) (A : Option Addr) (n : Nat) (vs : List Value) : Prop :=
  vs.length = n ∧ (0 < n → ∃ ad : Addr, A = some ad ∧ lo ≤ ad.block ∧ ad.block < hi ∧ ad.block < w.heap.size ∧ ∀ j v, vs[j]? = some v → w.cell? (ad.add j) = some v ∧ w.frozen? (ad.add j) = false)
section
variable {w w' : World} {lo hi n : Nat} {A : Option Addr} {vs : List Value}
theorem Wr.rd (h : Wr w lo hi A n vs) : Rd w A n vs := ⟨h.1, fun hn => by obtain ⟨ad, e, _, _, hlt, hc⟩ := h.2 hn; exact ⟨ad, e, hlt, fun j v hv => (hc j v hv).1⟩⟩
theorem Wr.nil {A : Option Addr} : Wr w lo hi A 0 [] := ⟨rfl, fun h => absurd h (by omega)⟩
theorem Wr.below (h : Wr w lo hi A n vs) (hb : Below w.heap.size w w') : Wr w' lo hi A n vs :=
  ⟨h.1, fun hn => by
    obtain ⟨ad, e, hB, hh, hlt, hc⟩ := h.2 hn
    exact ⟨ad, e, hB, hh, Nat.lt_of_lt_of_le hlt hb.size, fun j u hu => ⟨(hb.cell (p := ad.add j) (by rw [block_add]; exact hlt)).trans (hc j u hu).1, (hb.frozen (p := ad.add j) (by rw [block_add]; exact hlt)).trans (hc j u hu).2⟩⟩⟩
theorem Wr.wider {lo' hi' : Nat} (h : Wr w lo hi A n vs) (h1 : lo' ≤ lo) (h2 : hi ≤ hi') : Wr w lo' hi' A n vs :=
  ⟨h.1, fun hn => by obtain ⟨ad, e, hB, hh, hlt, hc⟩ := h.2 hn; exact ⟨ad, e, by omega, by omega, hlt, hc⟩⟩
theorem Wr.alloc (h : Wr w lo hi A n vs) (o : Obj) : Wr (w.alloc o) lo hi A n vs := h.below (below_size.alloc (Nat.le_refl _) o)
theorem Wr.keep {l r : Nat} (h : Wr w lo hi A n vs) (hk : KeepR l r w w') (hx : hi ≤ l ∨ r ≤ lo) : Wr w' lo hi A n vs :=
  ⟨h.1, fun hn => by
    obtain ⟨ad, e, hB, hh, hlt, hc⟩ := h.2 hn
    have hb := hk.block ad.block hlt (by omega)
    exact ⟨ad, e, hB, hh, Nat.lt_of_lt_of_le hlt hk.size, fun j u hu => ⟨(World.cell?_of_block (a := ad.add j) (by rw [block_add]; exact hb)).trans (hc j u hu).1, (World.frozen?_of_block (a := ad.add j) (by rw [block_add]; exact hb)).trans (hc j u hu).2⟩⟩⟩
theorem Wr.at_ {k : Nat} (h : Wr w lo hi A n vs) (hk : k < n) : ∃ ad v, A = some ad ∧ lo ≤ ad.block ∧ ad.block < hi ∧ ad.block < w.heap.size ∧ vs[k]? = some v ∧ w.cell? (ad.add k) = some v ∧ w.frozen? (ad.add k) = false := by
  obtain ⟨ad, e, hB, hh, hb, hc⟩ := h.2 (by omega)
  have hl : k < vs.length := by have := h.1; omega
  have := hc k _ (List.getElem?_eq_getElem hl)
  exact ⟨ad, vs[k], e, hB, hh, hb, List.getElem?_eq_getElem hl, this.1, this.2⟩
end

theorem Wr.rdI {w : World} {lo hi n : Nat} {A : Option Addr} {xs : List Int} (h : Wr w lo hi A n (xs.map i64)) : RdI w A n xs := h.rd
theorem Wr.rdB {w : World} {lo hi n : Nat} {A : Option Addr} {xs : List Bool} (h : Wr w lo hi A n (xs.map Value.bool)) : RdB w A n xs := h.rd
theorem off_add (a : Addr) (n : Nat) : (a.add n).off = a.off + n := by unfold Addr.add; split <;> simp_all
theorem Wr.set {w : World} {lo hi n k : Nat} {ad : Addr} {vs : List Value} (h : Wr w lo hi (some ad) n vs) (hk : k < n) (u : Value) : Wr (w.setCell (ad.add k) u) lo hi (some ad) n (vs.set k u) := by
  refine ⟨by rw [List.length_set]; exact h.1, fun hn => ?_⟩
  obtain ⟨ad', e, hB, hh, hb, hc⟩ := h.2 hn
  injection e with e; subst e
  refine ⟨ad, rfl, hB, hh, by rw [World.size_setCell]; exact hb, fun j v hj => ?_⟩
  rw [World.frozen?_setCell]
  by_cases hjk : k = j
  · subst hjk
    have hl : k < vs.length := by have := h.1; omega
    rw [List.getElem?_set_self hl] at hj
    injection hj with hj; subst hj
    have := hc k _ (List.getElem?_eq_getElem hl)
    exact ⟨World.cell?_setCell_same _ _ _ this.1, this.2⟩
  · rw [List.getElem?_set_ne hjk] at hj
    have := hc j v hj
    refine ⟨?_, this.2⟩
    rw [World.cell?_setCell_other _ _ _ _ (fun e => hjk (by have := congrArg Addr.off e; rw [off_add, off_add] at this; omega))]
    exact this.1
theorem Wr.set_far {w : World} {lo hi n : Nat} {A : Option Addr} {vs : List Value} (h : Wr w lo hi A n vs) {p : Addr} (hp : p.block < lo ∨ hi ≤ p.block) (u : Value) : Wr (w.setCell p u) lo hi A n vs :=
  ⟨h.1, fun hn => by
    obtain ⟨ad, e, hB, hh, hlt, hc⟩ := h.2 hn
    refine ⟨ad, e, hB, hh, by simpa using hlt, fun j v hj => ?_⟩
    rw [World.frozen?_setCell, World.cell?_setCell_other _ _ _ _ (fun e => by have := congrArg Addr.block e; rw [block_add] at this; omega)]
    exact hc j v hj⟩
/-- the numbers k, k + 1, .. -/
def marks (k : Int) : Nat → List Int
  | 0 => []
  | n + 1 => k :: marks (k + 1) n
theorem marks_len (n : Nat) : ∀ k, (marks k n).length = n := by
  induction n with
  | zero => intro k; rfl
  | succ n ih => intro k; simp [marks, ih]
theorem marks_at {n j : Nat} (h : j < n) : ∀ k, (marks k n)[j]? = some (k + j) := by
  induction n generalizing j with
  | zero => omega
  | succ n ih =>
    intro k
    cases j with
    | zero => simp [marks]
    | succ j =>
      simp only [marks, List.getElem?_cons_succ]
      rw [ih (by omega)]
      congr 1; omega

/-! ### A block that is known whole -/
def Blk (w : World) (g : Nat) (t : TypeId) (cs : Array Value) : Prop := w.heap[g]? = some (.cells cs t (0, 0))
section
variable {w w' : World} {g : Nat} {t : TypeId} {cs : Array Value}
theorem Blk.lt (h : Blk w g t cs) : g < w.heap.size := by
  rcases Nat.lt_or_ge g w.heap.size with hlt | hge
  · exact hlt
  · unfold Blk at h; rw [Array.getElem?_eq_none hge] at h; cases h
theorem Blk.cell (h : Blk w g t cs) (i : Nat) : w.cell? ⟨g, i, none⟩ = cs[i]? := cell_of_row w g i cs t (0, 0) h
theorem Blk.frozen (h : Blk w g t cs) (i : Nat) : w.frozen? ⟨g, i, none⟩ = false := by
  unfold Blk at h
  simp [World.frozen?, h]
theorem Blk.new (w : World) (t : TypeId) (cs : Array Value) : Blk (w.alloc (.cells cs t)) w.heap.size t cs := heap_alloc_new w _
theorem Blk.drew (h : Blk w g t cs) : Blk w.drew g t cs := h
theorem Blk.drewN (h : Blk w g t cs) (n : Nat) : Blk (w.drewN n) g t cs := h
theorem Blk.alloc (h : Blk w g t cs) (o : Obj) : Blk (w.alloc o) g t cs := (Below.heap_alloc w o g h.lt).trans h
theorem Blk.set_ (h : Blk w g t cs) (i : Nat) (u : Value) : Blk (w.setCell ⟨g, i, none⟩ u) g t (cs.setIfInBounds i u) := by
  unfold Blk at h ⊢
  simp [World.setCell, Array.getElem?_modify, h]
theorem Blk.far (h : Blk w g t cs) {p : Addr} (hp : g ≠ p.block) (u : Value) : Blk (w.setCell p u) g t cs := (Below.heap_setCell w p u g hp).trans h
theorem Blk.below {B : Nat} (h : Blk w g t cs) (hb : Below B w w') (hg : g < B) : Blk w' g t cs := (hb.block g hg).trans h
theorem Blk.of_block (hb : w'.heap[g]? = w.heap[g]?) (h : Blk w g t cs) : Blk w' g t cs := hb.trans h
theorem Blk.keep (h : Blk w g t cs) (hb : Below w.heap.size w w') : Blk w' g t cs := (hb.block g h.lt).trans h
theorem Blk.cellA (h : Blk w g t cs) (i : Nat) (o : Obj) : (w.alloc o).cell? ⟨g, i, none⟩ = cs[i]? := (h.alloc o).cell i
theorem Blk.frozenA (h : Blk w g t cs) (i : Nat) (o : Obj) : (w.alloc o).frozen? ⟨g, i, none⟩ = false := (h.alloc o).frozen i
theorem Blk.rd (h : Blk w g t cs) {n : Nat} {vs : List Value} (hv : cs.toList.take n = vs) (hn : n ≤ cs.size) : Rd w (some ⟨g, 0, none⟩) n vs := by
  refine ⟨by rw [← hv]; simp; omega, fun _ => ⟨_, rfl, h.lt, fun j v hj => ?_⟩⟩
  rw [head_add, h.cell, ← hj, ← hv, List.getElem?_take]
  split
  · simp
  · rename_i hlt
    rw [← hv, List.getElem?_take, if_neg hlt] at hj; cases hj
theorem Blk.wr (h : Blk w g t cs) {lo hi n : Nat} {vs : List Value} (hB : lo ≤ g) (hh : g < hi) (hv : cs.toList.take n = vs) (hn : n ≤ cs.size) : Wr w lo hi (some ⟨g, 0, none⟩) n vs := by
  obtain ⟨h1, h2⟩ := h.rd hv hn
  refine ⟨h1, fun h0 => ?_⟩
  obtain ⟨ad, e, hlt, hc⟩ := h2 h0
  injection e with e; subst e
  exact ⟨_, rfl, hB, hh, hlt, fun j v hj => ⟨hc j v hj, by rw [head_add]; exact h.frozen j⟩⟩
end

/-! ### A row that is filled from the front -/
def fillV (vs : List Value) (z : Value) (k : Nat) : Array Value := (vs.take k ++ List.replicate (vs.length - k) z).toArray
theorem fillV_zero (vs : List Value) (z : Value) : fillV vs z 0 = Array.replicate vs.length z := by simp [fillV]
theorem fillV_all (vs : List Value) (z : Value) : fillV vs z vs.length = vs.toArray := by simp [fillV]
theorem fillV_size (vs : List Value) (z : Value) (k : Nat) (h : k ≤ vs.length) : (fillV vs z k).size = vs.length := by simp [fillV]; omega
theorem fillV_set {vs : List Value} {z v : Value} {k : Nat} (h : vs[k]? = some v) : (fillV vs z k).setIfInBounds k v = fillV vs z (k + 1) := by
  obtain ⟨hk, rfl⟩ := List.getElem?_eq_some_iff.1 h
  unfold fillV
  have ht := take_at h
  simp only [List.setIfInBounds_toArray]
  rw [ht]
  congr 1
  rw [show vs.length - k = (vs.length - (k + 1)) + 1 by omega, List.replicate_succ, List.set_append_right _ _ (by simp; omega)]
  simp only [List.length_take, show min k vs.length = k by omega, Nat.sub_self, List.set_cons_zero, List.append_assoc, List.cons_append, List.nil_append]
theorem fillV_at {vs : List Value} {z : Value} {k : Nat} (h : k < vs.length) : (fillV vs z k)[k]? = some z := by
  unfold fillV
  simp only [List.getElem?_toArray]
  rw [List.getElem?_append_right (by simp; omega)]
  simp only [List.length_take, show min k vs.length = k by omega, Nat.sub_self]
  rw [List.getElem?_replicate, if_pos (by omega)]

theorem made_one (z : Value) (n : Nat) : madeCells #[z] n = Array.replicate n z := by
  apply Array.ext
  · simp [madeCells]
  · intro i h1 h2; simp [madeCells, Nat.mod_one]

/-- 'make([]T, n)', one cell an element -/
theorem run_mk {P : Program} (t e : TypeId) (z : Value) (bytes : Nat) (ht : P.underlying t = some (.slice e)) (hi : (P.info? e).map (fun i => (i.zero, i.size, i.bytes)) = some (some z, 1, bytes)) (hz : z.cells = #[z])
    (kl kc : IntKind) (n c : Nat) (hnc : n ≤ c) (hb : bytes * c ≤ 281474976710656) (h63 : c ≤ 9223372036854775807) (w : World) :
    (Instr.makeSlice t (.int kl (n : Int)) (.int kc (c : Int))).run P w = .ok (.slice (some ⟨w.heap.size, 0, none⟩) n c) (w.alloc (.cells (Array.replicate c z) e)) := by
  obtain ⟨i, hi0, hi1⟩ := Option.map_eq_some_iff.1 hi
  simp only [Prod.mk.injEq] at hi1
  obtain ⟨h1, h2, h3⟩ := hi1
  have hb' : (i.bytes : Int) * (c : Int) ≤ 281474976710656 := by
    have h : ((i.bytes * c : Nat) : Int) ≤ 281474976710656 := by rw [h3]; omega
    rwa [Int.natCast_mul] at h
  have hr := run_make (P := P) w t e i z ht hi0 h1 kl kc n c (by omega) (by omega) hb' (by omega)
  simp only [Int.toNat_natCast, h2, hz, Nat.mul_one, made_one] at hr
  exact hr

end Go.Proofs.YtebjpmmgdkepjaaGreatDoor
