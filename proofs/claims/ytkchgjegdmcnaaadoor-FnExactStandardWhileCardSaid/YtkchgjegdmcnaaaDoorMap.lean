/-
  Maps that the call itself makes, by the list of their entries: a look-up with 'ok' and a store at a key that is not there yet; keys that are integers or structs of two integers. Nothing of the program.
-/
import Derived.Test.YtkchgjegdmcnaaaDoorBase
import Derived.MapKept
import Derived.DeepKeys3
namespace Go.Proofs.YtkchgjegdmcnaaaDoor
open Go.RowKit

/-- block g is a map with the entries m, in the order in which they came -/
def MapAt {α β : Type} (w : World) (g : Nat) (kv : α → Value) (vv : β → Value) (m : List (α × β)) : Prop :=
  ∃ es clock, w.heap[g]? = some (.map es clock) ∧ es.toList.map (fun e => (e.key, e.val)) = m.map (fun p => (kv p.1, vv p.2))

/-- what the model does with keys of this type -/
structure KeyOk {α : Type} (P : Program) (K : TypeId) (kv : α → Value) : Prop where
  check : ∀ (b : Bool) (k : α) (w : World), (Instr.checkKey b 10000 K (kv k)).run P w = .ok () w
  find : ∀ (k : α) (l : List α) (es : List MapEntry) (w : World), es.map (·.key) = l.map kv →
    ((k ∉ l ∧ (Instr.findKey K (kv k) es).run P w = .ok none w) ∨ ∃ j e, l[j]? = some k ∧ (∀ i, i < j → l[i]? ≠ some k) ∧ es[j]? = some e ∧ (Instr.findKey K (kv k) es).run P w = .ok (some (j, e.val)) w)

section
variable {α β : Type} {P : Program} {K : TypeId} {kv : α → Value}

theorem asking {w : World} (heq : ∀ a b, ∃ r : Bool, (Op.equal K (kv a) (kv b)).run P w = .ok r w ∧ (r = true ↔ a = b)) (k : α) : ∀ (l : List α) (es : List MapEntry) (i0 : Nat), es.map (·.key) = l.map kv →
    ((k ∉ l ∧ (Instr.findAsking K (kv k) es i0).run P w = .ok none w) ∨ ∃ j e, l[j]? = some k ∧ (∀ i, i < j → l[i]? ≠ some k) ∧ es[j]? = some e ∧ (Instr.findAsking K (kv k) es i0).run P w = .ok (some (i0 + j, e.val)) w)
  | [], es, i0, h => by
    have : es = [] := by simpa using h
    subst this
    exact .inl ⟨by simp, by simp [Instr.findAsking]⟩
  | a :: l, es, i0, h => by
    cases es with
    | nil => simp at h
    | cons e es =>
      simp only [List.map_cons, List.cons.injEq] at h
      obtain ⟨r, hr, hiff⟩ := heq k a
      cases r with
      | true =>
        have := hiff.1 rfl; subst this
        exact .inr ⟨0, e, rfl, fun i hi => by omega, rfl, by simp [Instr.findAsking, h.1, hr]⟩
      | false =>
        have hne : k ≠ a := fun e => by have := hiff.2 e; cases this
        rcases asking heq k l es (i0 + 1) h.2 with ⟨h1, h2⟩ | ⟨j, e', h1, h2, h3, h4⟩
        · exact .inl ⟨by simp [hne, h1], by simp [Instr.findAsking, h.1, hr, h2]⟩
        · refine .inr ⟨j + 1, e', by simpa using h1, fun i hi => ?_, by simpa using h3, by simp [Instr.findAsking, h.1, hr, h4, Nat.add_assoc, Nat.add_comm 1 j]⟩
          cases i with
          | zero => simpa using fun e => hne e.symm
          | succ i => simpa using h2 i (by omega)

theorem now_int (q : IntKind) (k : Int) : ∀ (l : List Int) (es : List MapEntry) (i0 : Nat), es.map (·.key) = l.map (Value.int q) →
    ((k ∉ l ∧ Instr.findNow (.int q) (.int q k) es i0 = some none) ∨ ∃ j e, l[j]? = some k ∧ (∀ i, i < j → l[i]? ≠ some k) ∧ es[j]? = some e ∧ Instr.findNow (.int q) (.int q k) es i0 = some (some (i0 + j, e.val)))
  | [], es, i0, h => by
    have : es = [] := by simpa using h
    subst this
    exact .inl ⟨by simp, by simp [Instr.findNow]⟩
  | a :: l, es, i0, h => by
    cases es with
    | nil => simp at h
    | cons e es =>
      simp only [List.map_cons, List.cons.injEq] at h
      by_cases hk : k = a
      · subst hk
        exact .inr ⟨0, e, rfl, fun i hi => by omega, rfl, by simp [Instr.findNow, Instr.sameNow, h.1]⟩
      · have hkb : (k == a) = false := by simp [hk]
        rcases now_int q k l es (i0 + 1) h.2 with ⟨h1, h2⟩ | ⟨j, e', h1, h2, h3, h4⟩
        · exact .inl ⟨by simp [hk, h1], by simp [Instr.findNow, Instr.sameNow, h.1, hkb, h2]⟩
        · refine .inr ⟨j + 1, e', by simpa using h1, fun i hi => ?_, by simpa using h3, by simp [Instr.findNow, Instr.sameNow, h.1, hkb, h4, Nat.add_assoc, Nat.add_comm 1 j]⟩
          cases i with
          | zero => simpa using fun e => hk e.symm
          | succ i => simpa using h2 i (by omega)

theorem keyOk_int {q : IntKind} (hK : P.underlying K = some (.int q)) : KeyOk P K (Value.int q) where
  check b k w := MapKept.run_checkKey hK (by simp [MapKept.IsKey]) b 9999
  find k l es w h := by
    rcases now_int q k l es 0 h with ⟨h1, h2⟩ | ⟨j, e, h1, h2, h3, h4⟩
    · exact .inl ⟨h1, MapKept.run_findKey hK h2⟩
    · exact .inr ⟨j, e, h1, h2, h3, by rw [MapKept.run_findKey hK h4]; simp⟩

theorem now_str (k : ByteArray) : ∀ (l : List ByteArray) (es : List MapEntry) (i0 : Nat), es.map (·.key) = l.map Value.string →
    ((k ∉ l ∧ Instr.findNow .string (.string k) es i0 = some none) ∨ ∃ j e, l[j]? = some k ∧ (∀ i, i < j → l[i]? ≠ some k) ∧ es[j]? = some e ∧ Instr.findNow .string (.string k) es i0 = some (some (i0 + j, e.val)))
  | [], es, i0, h => by
    have : es = [] := by simpa using h
    subst this
    exact .inl ⟨by simp, by simp [Instr.findNow]⟩
  | a :: l, es, i0, h => by
    cases es with
    | nil => simp at h
    | cons e es =>
      simp only [List.map_cons, List.cons.injEq] at h
      by_cases hk : k = a
      · subst hk
        have hkb : (k == k) = true := (MapKept.bytes_beq k k).2 rfl
        exact .inr ⟨0, e, rfl, fun i hi => by omega, rfl, by simp [Instr.findNow, Instr.sameNow, h.1, hkb]⟩
      · have hkb : (k == a) = false := by
          cases hq : (k == a) with
          | false => rfl
          | true => exact absurd ((MapKept.bytes_beq k a).1 hq) hk
        rcases now_str k l es (i0 + 1) h.2 with ⟨h1, h2⟩ | ⟨j, e', h1, h2, h3, h4⟩
        · exact .inl ⟨by simp [hk, h1], by simp [Instr.findNow, Instr.sameNow, h.1, hkb, h2]⟩
        · refine .inr ⟨j + 1, e', by simpa using h1, fun i hi => ?_, by simpa using h3, by simp [Instr.findNow, Instr.sameNow, h.1, hkb, h4, Nat.add_assoc, Nat.add_comm 1 j]⟩
          cases i with
          | zero => simpa using fun e => hk e.symm
          | succ i => simpa using h2 i (by omega)
theorem keyOk_str (hK : P.underlying K = some .string) : KeyOk P K Value.string where
  check b k w := MapKept.run_checkKey hK (by simp [MapKept.IsKey]) b 9999
  find k l es w h := by
    rcases now_str k l es 0 h with ⟨h1, h2⟩ | ⟨j, e, h1, h2, h3, h4⟩
    · exact .inl ⟨h1, MapKept.run_findKey hK h2⟩
    · exact .inr ⟨j, e, h1, h2, h3, by rw [MapKept.run_findKey hK h4]; simp⟩

/-- a struct of two integers as a key -/
def pairKey (p : Int × Int) : Value := .agg #[.int .i64 p.1, .int .i64 p.2]
theorem now_agg {fs : Array Field} (p : Int × Int) (e : MapEntry) (es : List MapEntry) (i : Nat) : Instr.findNow (.struct fs) (pairKey p) (e :: es) i = none := by
  simp only [Instr.findNow, Instr.sameNow]
theorem keyOk_pair {fs : Array Field} (hK : P.underlying K = some (.struct fs)) (hc : ∀ (b : Bool) p w, (Instr.checkKey b 10000 K (pairKey p)).run P w = .ok () w)
    (heq : ∀ a b w, ∃ r : Bool, (Op.equal K (pairKey a) (pairKey b)).run P w = .ok r w ∧ (r = true ↔ a = b)) : KeyOk P K pairKey where
  check b k w := hc b k w
  find k l es w h := by
    cases es with
    | nil =>
      have : l = [] := by simpa using h.symm
      subst this
      exact .inl ⟨by simp, MapKept.run_findKey hK (by rfl)⟩
    | cons e es =>
      have hr : (Instr.findKey K (pairKey k) (e :: es)).run P w = (Instr.findAsking K (pairKey k) (e :: es)).run P w := by
        simp only [Instr.findKey, Sem.run_bind, run_underlying hK, Result.andThen_ok, now_agg]
      rw [hr]
      rcases asking (fun a b => heq a b w) k l (e :: es) 0 h with h | ⟨j, e', h1, h2, h3, h4⟩
      · exact .inl h
      · exact .inr ⟨j, e', h1, h2, h3, by rw [h4]; simp⟩

variable {vv : β → Value} {w w' : World} {g : Nat} {m : List (α × β)} {T E : TypeId}

theorem MapAt.lt (h : MapAt w g kv vv m) : g < w.heap.size := by obtain ⟨es, c, hb, _⟩ := h; exact (Array.getElem?_eq_some_iff.1 hb).1
theorem MapAt.of_block (hb : w'.heap[g]? = w.heap[g]?) (h : MapAt w g kv vv m) : MapAt w' g kv vv m := by obtain ⟨es, c, h1, h2⟩ := h; exact ⟨es, c, hb.trans h1, h2⟩
theorem MapAt.below {B : Nat} (h : MapAt w g kv vv m) (hb : Below B w w') (hg : g < B) : MapAt w' g kv vv m := .of_block (hb.block g hg) h
theorem MapAt.keep (h : MapAt w g kv vv m) (hb : Below w.heap.size w w') : MapAt w' g kv vv m := h.below hb h.lt
theorem MapAt.keepR {lo hi : Nat} (h : MapAt w g kv vv m) (hk : KeepR lo hi w w') (hg : g < lo ∨ hi ≤ g) : MapAt w' g kv vv m := .of_block (hk.block g h.lt hg) h
theorem MapAt.alloc (h : MapAt w g kv vv m) (o : Obj) : MapAt (w.alloc o) g kv vv m := h.keep (below_size.alloc (Nat.le_refl _) o)
theorem MapAt.drew (h : MapAt w g kv vv m) : MapAt w.drew g kv vv m := h
theorem MapAt.drewN (h : MapAt w g kv vv m) (n : Nat) : MapAt (w.drewN n) g kv vv m := h
theorem MapAt.new (w : World) (kv : α → Value) (vv : β → Value) : MapAt (w.alloc (.map #[] 0)) w.heap.size kv vv [] := ⟨#[], 0, heap_alloc_new w _, by simp⟩
theorem MapAt.far (h : MapAt w g kv vv m) {p : Addr} (hp : g ≠ p.block) (u : Value) : MapAt (w.setCell p u) g kv vv m := .of_block (Below.heap_setCell w p u g hp) h

theorem MapAt.keys (h : MapAt w g kv vv m) : ∃ es clock, w.heap[g]? = some (.map es clock) ∧ es.toList.map (·.key) = (m.map (·.1)).map kv ∧ es.toList.map (·.val) = (m.map (·.2)).map vv ∧ es.toList.map (fun e => (e.key, e.val)) = m.map (fun p => (kv p.1, vv p.2)) := by
  obtain ⟨es, c, hb, he⟩ := h
  refine ⟨es, c, hb, ?_, ?_, he⟩
  · have := congrArg (List.map Prod.fst) he; simpa [Function.comp_def] using this
  · have := congrArg (List.map Prod.snd) he; simpa [Function.comp_def] using this

/-- 'v, ok := m[k]' where k is not there -/
theorem MapAt.look_none (h : MapAt w g kv vv m) (hk : KeyOk P K kv) (ht : P.underlying T = some (.map K E)) {z : Value} (hz : (zeroValue E).run P w = .ok z w) {k : α} (hn : k ∉ m.map (·.1)) :
    (Instr.lookup T (.map (some g)) (kv k) true).run P w = .ok (.tuple #[z, .bool false]) w := by
  obtain ⟨es, c, hb, h1, h2, _⟩ := h.keys
  rcases hk.find k _ _ w h1 with ⟨_, hr⟩ | ⟨j, e, hj, _⟩
  · simp [Instr.lookup, run_underlying ht, MapKept.run_getObj_map hb, hk.check, hr, hz, Result.andThen]
  · exact absurd (List.mem_of_getElem? hj) hn

/-- 'v, ok := m[k]' where k is there -/
theorem MapAt.look_some (h : MapAt w g kv vv m) (hk : KeyOk P K kv) (ht : P.underlying T = some (.map K E)) {k : α} {v : β} (hin : k ∈ m.map (·.1)) (hu : ∀ v', (k, v') ∈ m → v' = v) :
    (Instr.lookup T (.map (some g)) (kv k) true).run P w = .ok (.tuple #[vv v, .bool true]) w := by
  obtain ⟨es, c, hb, h1, h2, _⟩ := h.keys
  rcases hk.find k _ _ w h1 with ⟨hn, _⟩ | ⟨j, e, hj, _, he, hr⟩
  · exact absurd hin hn
  · have hv : e.val = vv v := by
      have a := congrArg (fun l => l[j]?) h2
      simp only [List.getElem?_map, he, Option.map_some] at a
      simp only [List.getElem?_map] at hj
      obtain ⟨q, hq, rfl⟩ := Option.map_eq_some_iff.1 hj
      rw [hq] at a
      simp only [Option.map_some, Option.some.injEq] at a
      rw [a, hu q.2 (List.mem_of_getElem? hq)]
    simp [Instr.lookup, run_underlying ht, MapKept.run_getObj_map hb, hk.check, hr, hv, Result.andThen]

/-- 'm[k] = v' where k is not there -/
theorem MapAt.store (h : MapAt w g kv vv m) (hk : KeyOk P K kv) (ht : P.underlying T = some (.map K E)) {k : α} (hn : k ∉ m.map (·.1)) (v : β) :
    ∃ w', (Instr.mapUpdate T (.map (some g)) (kv k) (vv v)).run P w = .ok () w' ∧ MapAt w' g kv vv (m ++ [(k, v)]) ∧ KeepR g (g + 1) w w' ∧ w'.heap.size = w.heap.size := by
  obtain ⟨es, c, hb, h1, _, h2⟩ := h.keys
  rcases hk.find k _ _ w h1 with ⟨_, hr⟩ | ⟨j, e, hj, _⟩
  · refine ⟨{ w with heap := w.heap.setIfInBounds g (.map (es.push { key := kv k, val := vv v, born := c }) (c + 1)) }, ?_, ⟨_, _, (MapKept.heap_set hb).1, ?_⟩, ⟨rfl, rfl, rfl, by simp, fun i _ hi => (MapKept.heap_set hb).2 i (by omega)⟩, by simp⟩
    · simp [Instr.mapUpdate, run_underlying ht, MapKept.run_getObj_map hb, hk.check, hr, MapKept.run_setObj_map _ hb, Result.andThen]
    · simp [h2]
  · exact absurd (List.mem_of_getElem? hj) hn
end

end Go.Proofs.YtkchgjegdmcnaaaDoor
