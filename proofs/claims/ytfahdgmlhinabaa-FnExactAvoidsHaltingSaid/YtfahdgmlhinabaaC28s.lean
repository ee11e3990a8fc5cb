/-
  Contracts of chapter 28 (automata): what the program's closure calls for an abstraction that it finds.
-/
import Derived.Test.YtfahdgmlhinabaaC28r
import Derived.Test.YtfahdgmlhinabaaMap
import Derived.ChangeKeysEq
namespace Go.Proofs.Ytfahdgmlhinabaa
open Go.RowKit

def key4 (y : Nd) : Value := .agg #[.int .i64 y.1, .int .i64 y.2.1, .int .i64 y.2.2.1, .int .i64 y.2.2.2]
def enc4 (y : Nd) : List Value := [.int .i64 y.1, .int .i64 y.2.1, .int .i64 y.2.2.1, .int .i64 y.2.2.2]
theorem enc4_len (y : Nd) : (enc4 y).length = 4 := rfl
theorem now_key4 {n : Nat} {e : TypeId} (p : Nd) (x : MapEntry) (es : List MapEntry) (i : Nat) : Instr.findNow (.array n e) (key4 p) (x :: es) i = none := by
  simp only [Instr.findNow, Instr.sameNow]
theorem outline_key : KeyOk Try.prog 129 key4 where
  check b k w := by cases b <;> kernel_rfl
  find k l es w h := by
    have heq : ∀ a b, ∃ r : Bool, (Op.equal 129 (key4 a) (key4 b)).run Try.prog w = .ok r w ∧ (r = true ↔ a = b) := by
      rintro ⟨a, b, c, d⟩ ⟨a', b', c', d'⟩
      refine ⟨a == a' && (b == b' && (c == c' && d == d')), ?_, by simp⟩
      have pt0 : ∀ p q r s : Int, (part 2 #[.int .i64 p, .int .i64 q, .int .i64 r, .int .i64 s] 0).run Try.prog w = .ok (.int .i64 p) w := fun p q r s => by kernel_rfl
      have pt1 : ∀ p q r s : Int, (part 2 #[.int .i64 p, .int .i64 q, .int .i64 r, .int .i64 s] 1).run Try.prog w = .ok (.int .i64 q) w := fun p q r s => by kernel_rfl
      have pt2 : ∀ p q r s : Int, (part 2 #[.int .i64 p, .int .i64 q, .int .i64 r, .int .i64 s] 2).run Try.prog w = .ok (.int .i64 r) w := fun p q r s => by kernel_rfl
      have pt3 : ∀ p q r s : Int, (part 2 #[.int .i64 p, .int .i64 q, .int .i64 r, .int .i64 s] 3).run Try.prog w = .ok (.int .i64 s) w := fun p q r s => by kernel_rfl
      have hc : Try.prog.cellsOf 2 = 1 := by kernel_rfl
      obtain ⟨i, hi⟩ : ∃ i, Try.prog.info? 2 = some i := Option.isSome_iff_exists.1 (by kernel_rfl)
      have h := run_equalIn_array (P := Try.prog) (w := w) 9999 #[.int .i64 a, .int .i64 b, .int .i64 c, .int .i64 d] #[.int .i64 a', .int .i64 b', .int .i64 c', .int .i64 d'] Try.underlying129 hi
      refine h.trans ?_
      rw [hc]
      simp only [List.range, List.range.loop, Op.eqItems, Nat.mul_one, pt0, Sem.run_bind, Result.andThen_ok, run_equalIn_int w _ _ _ _ _ _ Try.underlying2]
      by_cases ha : a = a' <;> by_cases hb : b = b' <;> by_cases hc : c = c' <;> by_cases hd : d = d' <;> simp [ha, hb, hc, hd, pt1, pt2, pt3, Result.andThen, run_equalIn_int w _ _ _ _ _ _ Try.underlying2]
    cases es with
    | nil =>
      have : l = [] := by simpa using h.symm
      subst this
      exact .inl ⟨by simp, MapKept.run_findKey Try.underlying129 (by rfl)⟩
    | cons e es =>
      have hr : (Instr.findKey 129 (key4 k) (e :: es)).run Try.prog w = (Instr.findAsking 129 (key4 k) (e :: es)).run Try.prog w := by
        simp only [Instr.findKey, Sem.run_bind, run_underlying Try.underlying129, Result.andThen_ok, now_key4]
      rw [hr]
      rcases asking heq k l (e :: es) 0 h with h | ⟨j, e', h1, h2, h3, h4⟩
      · exact .inl h
      · exact .inr ⟨j, e', h1, h2, h3, by rw [h4]; simp⟩
section
variable {α β : Type} {P : Program} {K : TypeId} {kv : α → Value} {vv : β → Value} {w w' : World} {g : Nat} {m : List (α × β)} {T E : TypeId}
/-- 'm[k]' where k is not there -/
theorem MapAt.look1_none (h : MapAt w g kv vv m) (hk : KeyOk P K kv) (ht : P.underlying T = some (.map K E)) {z : Value} (hz : (zeroValue E).run P w = .ok z w) {k : α} (hn : k ∉ m.map (·.1)) :
    (Instr.lookup T (.map (some g)) (kv k) false).run P w = .ok z w := by
  obtain ⟨es, c, hb, h1, h2, _⟩ := h.keys
  rcases hk.find k _ _ w h1 with ⟨_, hr⟩ | ⟨j, e, hj, _⟩
  · simp [Instr.lookup, run_underlying ht, MapKept.run_getObj_map hb, hk.check, hr, hz, Result.andThen]
  · exact absurd (List.mem_of_getElem? hj) hn
/-- 'm[k]' where k is there -/
theorem MapAt.look1_some (h : MapAt w g kv vv m) (hk : KeyOk P K kv) (ht : P.underlying T = some (.map K E)) {k : α} {v : β} (hin : k ∈ m.map (·.1)) (hu : ∀ v', (k, v') ∈ m → v' = v) :
    (Instr.lookup T (.map (some g)) (kv k) false).run P w = .ok (vv v) w := by
  obtain ⟨es, c, hb, h1, h2, _⟩ := h.keys
  rcases hk.find k _ _ w h1 with ⟨hn, _⟩ | ⟨j, e, hj, _, he, hr⟩
  · exact absurd hin hn
  · have hv : e.val = vv v := by
      have a := congrArg (fun l => l[j]?) h2
      simp only [List.getElem?_map, he, Option.map_some] at a
      simp only [List.getElem?_map] at hj
      obtain ⟨q, hq, rfl⟩ := Option.map_eq_some_iff.1 hj
      rw [hq] at a
      simp only [Option.map_some, Option.some.injEq] at a
      rw [a, hu q.2 (List.mem_of_getElem? hq)]
    simp [Instr.lookup, run_underlying ht, MapKept.run_getObj_map hb, hk.check, hr, hv, Result.andThen]
end
/-- the closure's memory: a map of those that were seen, and their list, each in a variable that a function captures -/
structure FdS (w : World) (B gm g5 g2 : Nat) (l : List Nd) : Prop where
  map : MapAt w gm key4 Value.bool (l.map fun y => (y, true))
  box : Blk w g5 170 #[.map (some gm)]
  list : ∃ O c, Blk w g2 124 #[.slice O l.length c] ∧ Own w B 129 4 O l.length c (l.flatMap enc4)
  hB : B ≤ gm ∧ B ≤ g5 ∧ B ≤ g2
/-- what a call of it leaves alone -/
structure FK (B g2 : Nat) (w w' : World) : Prop where
  below : Below B w w'
  blk : ∀ b t cs, Blk w b t cs → t ≠ 129 → b ≠ g2 → Blk w' b t cs
  size : w.heap.size ≤ w'.heap.size
theorem FK.refl (B g2 : Nat) (w : World) : FK B g2 w w := ⟨Below.refl _ _, fun _ _ _ h _ _ => h, Nat.le_refl _⟩
theorem FK.trans {B g2 : Nat} {a b c : World} (h : FK B g2 a b) (k : FK B g2 b c) : FK B g2 a c := ⟨h.below.trans k.below, fun x t cs h1 h2 h3 => k.blk x t cs (h.blk x t cs h1 h2 h3) h2 h3, Nat.le_trans h.size k.size⟩
theorem FK.of {B g2 : Nat} {w w' : World} (h : Below w.heap.size w w') (hB : B ≤ w.heap.size) : FK B g2 w w' := ⟨h.mono hB, fun _ _ _ h1 _ _ => h1.keep h, h.size⟩
theorem FdS.keep {w w' : World} {B gm g5 g2 : Nat} {l : List Nd} (h : FdS w B gm g5 g2 l) (hb : Below w.heap.size w w') : FdS w' B gm g5 g2 l := by
  obtain ⟨O, c, h1, h2⟩ := h.list
  exact ⟨h.map.keep hb, h.box.keep hb, ⟨O, c, h1.keep hb, h2.keep hb⟩, h.hB⟩
theorem FdS.lt {w : World} {B gm g5 g2 : Nat} {l : List Nd} (h : FdS w B gm g5 g2 l) : gm < w.heap.size ∧ g5 < w.heap.size ∧ g2 < w.heap.size := by
  obtain ⟨O, c, h1, _⟩ := h.list
  exact ⟨h.map.lt, h.box.lt, h1.lt⟩
theorem MapAt.notBlk {α β : Type} {w : World} {g : Nat} {kv : α → Value} {vv : β → Value} {m : List (α × β)} (h : MapAt w g kv vv m) {t : TypeId} {cs : Array Value} (hb : Blk w g t cs) : False := by
  obtain ⟨es, c, h1, _⟩ := h
  unfold Blk at hb
  rw [hb] at h1
  injection h1 with h1
  cases h1
theorem info_outline : (Try.prog.info? 129).map (fun i => (i.zero, i.size, i.bytes)) = some (some (.agg #[.int .i64 0, .int .i64 0, .int .i64 0, .int .i64 0]), 4, 32) := by kernel_rfl
theorem map_in {l : List Nd} {y : Nd} : y ∈ (l.map fun y => (y, true)).map (·.1) ↔ y ∈ l := by simp
theorem Blk.ne {w : World} {g g' : Nat} {t t' : TypeId} {cs cs' : Array Value} (h : Blk w g t cs) (h' : Blk w g' t' cs') (ht : t ≠ t') : g ≠ g' := by
  rintro rfl
  unfold Blk at h h'
  rw [h] at h'
  injection h' with h'
  injection h' with _ e
  exact ht e
set_option maxHeartbeats 4000000 in
set_option maxRecDepth 100000 in
theorem find_c (B gm g5 g2 : Nat) (l : List Nd) (y : Nd) (w : World) (h : FdS w B gm g5 g2 l) (hl : l.length ≤ 100000) :
    Calls Try.prog 131 #[key4 y, .pointer (some ⟨g5, 0, none⟩), .pointer (some ⟨g2, 0, none⟩)] w fun e w' => e = .returned (.tuple #[]) ∧ FdS w' B gm g5 g2 (addN l y) ∧ FK B g2 w w' := by
  obtain ⟨O, c, hg2, hO⟩ := h.list
  have hB := h.hB; have hlt := h.lt
  obtain ⟨w0, hw0⟩ : ∃ w0, w.alloc (.cells #[.int .i64 y.1, .int .i64 y.2.1, .int .i64 y.2.2.1, .int .i64 y.2.2.2] 129) = w0 := ⟨_, rfl⟩
  have B0 := Lib.hid (show Below w.heap.size w w0 by rw [← hw0]; exact below_size.alloc (Nat.le_refl _) _)
  have X0 := Lib.hid (show Blk w0 w.heap.size 129 #[.int .i64 y.1, .int .i64 y.2.1, .int .i64 y.2.2.1, .int .i64 y.2.2.2] by rw [← hw0]; exact Blk.new w _ _)
  have H0 := Lib.hid (h.keep B0.out)
  have x0 := X0.out.cell 0; have x1 := X0.out.cell 1; have x2 := X0.out.cell 2; have x3 := X0.out.cell 3
  simp at x0 x1 x2 x3
  have m5 := H0.out.box.cell 0
  simp at m5
  have hz0 : w0.heap.size = w.heap.size + 1 := by rw [← hw0]; simp
  have HZ0 := Lib.hid hz0
  have G2 := Lib.hid (hg2.keep B0.out); have O2 := Lib.hid (hO.keep B0.out)
  by_cases hy : y ∈ l
  · have hlk := H0.out.map.look1_some outline_key Try.underlying170 (v := true) (map_in.2 hy) (fun v' hv => by obtain ⟨z, _, e⟩ := List.mem_map.1 hv; injection e with _ e; exact e.symm)
    have HA := Lib.hid (show addN l y = l by rw [addN, if_pos hy])
    unfold key4 at hlk
    clear h hg2 hO hz0 hy
    unfold key4
    go_enter Try.func131, Try.ntmps131
    go_wp2_with fail
    go_end0
    exact ⟨rfl, by rw [HA.out]; exact H0.out, FK.of B0.out (by omega)⟩
  · have hny : y ∉ (l.map fun y => (y, true)).map (·.1) := fun h => hy (map_in.1 h)
    have hlk := H0.out.map.look1_none outline_key Try.underlying170 (z := .bool false) (by kernel_rfl) hny
    obtain ⟨w1, hst, hM1, hk1, hz1⟩ := H0.out.map.store outline_key Try.underlying170 hny true
    have HA := Lib.hid (show addN l y = l ++ [y] by rw [addN, if_neg hy])
    unfold key4 at hlk hst
    have hgb : ∀ {b t cs}, Blk w0 b t cs → b ≠ gm := fun hb e => by subst e; exact H0.out.map.notBlk hb
    have hkb : ∀ {b t cs}, Blk w0 b t cs → Blk w1 b t cs := fun hb => (hk1.block _ hb.lt (by have := hgb hb; omega)).trans hb
    have X1 := Lib.hid (hkb X0.out)
    have G1 := Lib.hid (hkb G2.out)
    have B1 := Lib.hid (hkb H0.out.box)
    have HM1 := Lib.hid hM1
    have O1 := Lib.hid (show Own w1 B 129 4 O l.length c (l.flatMap enc4) from O2.out.move (fun ad ha => by
      obtain ⟨_, hlt', _, cur, hc⟩ := O2.out.block ha
      exact hk1.block _ hlt' (by have := hgb (show Blk w0 ad.block _ cur from hc); omega)))
    have hzz : w1.heap.size = w.heap.size + 1 := hz1.trans hz0
    have HZ1 := Lib.hid hzz
    have y0 := X1.out.cell 0; have y1 := X1.out.cell 1; have y2 := X1.out.cell 2; have y3 := X1.out.cell 3
    simp at y0 y1 y2 y3
    have n5 := B1.out.cell 0; have n2 := G1.out.cell 0
    simp at n5 n2
    have HNE := Lib.hid (show ∀ b t cs, Blk w0 b t cs → b ≠ gm ∧ Blk w1 b t cs from fun _ _ _ hb => ⟨hgb hb, hkb hb⟩)
    have BW := Lib.hid (show Below B w w1 from (B0.out.mono (by omega)).trans (hk1.below hB.1 (by omega)))
    have hlm : gm < w1.heap.size ∧ g2 < w1.heap.size := by omega
    have CA := Lib.hid (show ∀ j u, (enc4 y)[j]? = some u → (w1.alloc (.cells #[.int .i64 y.1, .int .i64 y.2.1, .int .i64 y.2.2.1, .int .i64 y.2.2.2] 129)).cell? ((⟨w1.heap.size, 0, none⟩ : Addr).add j) = some u from
      fun j u hj => new_cellsK #[.int .i64 y.1, .int .i64 y.2.1, .int .i64 y.2.2.1, .int .i64 y.2.2.2] 129 j u hj)
    have hza : B ≤ (w1.alloc (.cells #[.int .i64 y.1, .int .i64 y.2.1, .int .i64 y.2.2.1, .int .i64 y.2.2.2] 129)).heap.size := by simp; omega
    clear h hg2 hO hz0 hy hny hM1 hk1 hz1 hgb hkb hzz
    unfold key4
    go_enter Try.func131, Try.ntmps131
    go_wp2_with (at_builtin; refine wp_app (by rfl) _ _ 124 129 (.agg #[.int .i64 0, .int .i64 0, .int .i64 0, .int .i64 0]) 4 32 (by rfl) Try.underlying124 info_outline rfl (by omega) B O l.length c (l.flatMap enc4) (by rfl) (by exact O1.out.alloc _) ⟨w1.heap.size, 0, none⟩ 1 1 (enc4 y) (by rfl) (by omega) (by rfl) CA.out (by intro u hu; simp [enc4] at hu; rcases hu with rfl | rfl | rfl | rfl <;> rfl) (by omega) (by omega) hza ?_; intro g' cap w3 own3 hb3 hk3 hg3 hz3; have hG3 : Blk w3 g2 124 #[.slice O l.length c] := (hk3 g2 (by simp; omega) (fun ad ha => O1.out.ne_ G1.out (by decide) ad ha)).trans (G1.out.alloc _); have c3 : w3.cell? ⟨g2, 0, none⟩ = some (.slice O l.length c) := hG3.cell 0; have f3 : w3.frozen? ⟨g2, 0, none⟩ = false := hG3.frozen 0)
    have hgm2 : gm ≠ g2 := fun e => HM1.out.notBlk (by rw [e]; exact G1.out)
    have hg52 : g5 ≠ g2 := Blk.ne B1.out G1.out (by decide)
    have hOg : ∀ ad', O = some ad' → ad'.block ≠ gm := fun ad' ha e => by
      obtain ⟨_, _, _, cur, hc⟩ := O1.out.block ha
      rw [e] at hc; exact HM1.out.notBlk hc
    have M3 := Lib.hid (show MapAt w3 gm key4 Value.bool ((l.map fun y => (y, true)) ++ [(y, true)]) from (HM1.out.alloc _).of_block (hk3 gm (by simp; omega) hOg))
    have B3 := Lib.hid (show Blk w3 g5 170 #[.map (some gm)] from (hk3 g5 (by have := B1.out.lt; simp; omega) (fun ad ha => O1.out.ne_ B1.out (by decide) ad ha)).trans (B1.out.alloc _))
    have G3 := Lib.hid hG3; have O3 := Lib.hid own3
    have BB := Lib.hid (BW.out.trans (((below_size.alloc (Nat.le_refl _) _).mono (by omega)).trans hb3))
    have HK3 := Lib.hid hk3
    have hzf : w.heap.size ≤ w3.heap.size := by simp at hz3; have := HZ1.out; omega
    clear hG3 own3 hb3 hk3 hg3 hOg hst hlk c3 f3
    go_end0
    refine ⟨rfl, ?_, (BB.out.setCell (p := ⟨g2, 0, none⟩) (by exact hB.2.2) _), fun b t cs hb ht hne => ?_, by simp; exact hzf⟩
    · rw [HA.out]
      refine ⟨?_, B3.out.far hg52 _, ⟨some ⟨g', 0, none⟩, cap, ?_, ?_⟩, hB⟩
      · rw [List.map_append]; exact M3.out.far hgm2 _
      · have := G3.out.set_ 0 (.slice (some ⟨g', 0, none⟩) (l.length + 1) cap)
        rw [List.length_append]; simpa using this
      · rw [List.length_append, List.flatMap_append]
        have : [y].flatMap enc4 = enc4 y := by simp
        rw [this]
        exact O3.out.far (fun ad ha => O3.out.ne_ G3.out (by decide) ad ha) _
    · have h1 := HNE.out b t cs (hb.keep B0.out)
      have h2 := (HK3.out b (by have := h1.2.lt; simp; omega) (fun ad ha => O1.out.ne_ h1.2 ht ad ha)).trans (h1.2.alloc _)
      exact Blk.far h2 hne _
end Go.Proofs.Ytfahdgmlhinabaa
