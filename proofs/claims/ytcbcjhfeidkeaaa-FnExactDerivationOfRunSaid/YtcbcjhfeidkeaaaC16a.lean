/-
  Lists of rewriting rules in memory; how they grow.
-/
import Derived.Test.YtcbcjhfeidkeaaaP16
import Derived.Test.YtcbcjhfeidkeaaaC05b
import Derived.Test.YtcbcjhfeidkeaaaOwnC
import Derived.Test.YtcbcjhfeidkeaaaMixB
import Derived.Laws.EntriesVeiled
namespace Go.Proofs.Ytcbcjhfeidkeaaa
open Go.RowKit

structure RwT where
  fA : Option Addr
  fn : Nat
  fc : Nat
  fx : List Int
  tA : Option Addr
  tn : Nat
  tc : Nat
  tx : List Int
def hdR (t : RwT) : List Value := [.slice t.fA t.fn t.fc, .slice t.tA t.tn t.tc]
def datR (t : RwT) : Rw := (t.fx, t.tx)
theorem hdR_len (t : RwT) : (hdR t).length = 2 := rfl
/-- a list of rules of the call's own; its words are only read -/
structure RwL (w : World) (B L : Nat) (P : Option Addr) (k pc : Nat) (ts : List RwT) : Prop where
  own : Own w B 85 2 P k pc (ts.flatMap hdR)
  fr : ∀ t ∈ ts, RdI w t.fA t.fn t.fx
  to : ∀ t ∈ ts, RdI w t.tA t.tn t.tx
  fne : ∀ t ∈ ts, ∀ a p, t.fA = some a → P = some p → 0 < t.fn → a.block ≠ p.block
  tne : ∀ t ∈ ts, ∀ a p, t.tA = some a → P = some p → 0 < t.tn → a.block ≠ p.block
  fnew : ∀ t ∈ ts, ∀ a, t.fA = some a → L ≤ a.block
  tnew : ∀ t ∈ ts, ∀ a, t.tA = some a → L ≤ a.block
section
variable {w w0 w1 w' : World} {B L k pc k' cap : Nat} {P A' : Option Addr} {ts ts2 : List RwT}
theorem RwL.nil (h : Own w B 85 2 P 0 pc []) : RwL w B L P 0 pc [] := ⟨h, (fun t ht => by cases ht), (fun t ht => by cases ht), (fun t ht => by cases ht), (fun t ht => by cases ht), (fun t ht => by cases ht), (fun t ht => by cases ht)⟩
theorem RwL.keep (h : RwL w B L P k pc ts) (hb : Below w.heap.size w w') : RwL w' B L P k pc ts := ⟨h.own.keep hb, fun t ht => (h.fr t ht).below hb, fun t ht => (h.to t ht).below hb, h.fne, h.tne, h.fnew, h.tnew⟩
theorem RwL.len (h : RwL w B L P k pc ts) : ts.length = k := by
  have h1 := h.own.len
  rw [flatX_len hdR 2 hdR_len] at h1; omega
theorem RwL.widen (h : RwL w B L P k pc ts) {B' L' : Nat} (hB : B' ≤ B) (hL : L' ≤ L) : RwL w B' L' P k pc ts :=
  ⟨h.own.widen hB, h.fr, h.to, h.fne, h.tne, fun t ht a ha => Nat.le_trans hL (h.fnew t ht a ha), fun t ht a ha => Nat.le_trans hL (h.tnew t ht a ha)⟩
theorem RwL.ext (h : RwL w1 B L P k pc ts) (f2 : ∀ t ∈ ts2, RdI w1 t.fA t.fn t.fx) (t2 : ∀ t ∈ ts2, RdI w1 t.tA t.tn t.tx)
    (fn2 : ∀ t ∈ ts2, ∀ a p, t.fA = some a → P = some p → 0 < t.fn → a.block ≠ p.block) (tn2 : ∀ t ∈ ts2, ∀ a p, t.tA = some a → P = some p → 0 < t.tn → a.block ≠ p.block) (fl2 : ∀ t ∈ ts2, ∀ a, t.fA = some a → L ≤ a.block) (tl2 : ∀ t ∈ ts2, ∀ a, t.tA = some a → L ≤ a.block)
    (own : Own w' B 85 2 A' k' cap (ts.flatMap hdR ++ ts2.flatMap hdR)) (hk : ∀ b, b < w1.heap.size → (∀ ad', P = some ad' → ad'.block ≠ b) → w'.heap[b]? = w1.heap[b]?) (hg : A' = P ∨ A' = some ⟨w1.heap.size, 0, none⟩) (hz : w1.heap.size ≤ w'.heap.size) :
    RwL w' B L A' k' cap (ts ++ ts2) := by
  have mv : ∀ {A : Option Addr} {n : Nat} {xs : List Int}, RdI w1 A n xs → (∀ a p, A = some a → P = some p → 0 < n → a.block ≠ p.block) → RdI w' A n xs := fun {A n xs} hr hne => Rd.atBlk hr (fun a ha hn => by
    obtain ⟨a', e, hlt, _⟩ := hr.2 hn
    have e2 := ha.symm.trans e; injection e2 with e2; subst e2
    exact hk _ hlt fun p hp => (hne a p ha hp hn).symm) hz
  have ap : ∀ {A : Option Addr} {n : Nat} {xs : List Int}, RdI w1 A n xs → (∀ a p, A = some a → P = some p → 0 < n → a.block ≠ p.block) → ∀ a p, A = some a → A' = some p → 0 < n → a.block ≠ p.block := fun {A n xs} hr hne a p ha hp hn => by
    rcases hg with hg | hg
    · exact hne a p ha (hg ▸ hp) hn
    · obtain ⟨a', e, hlt, _⟩ := hr.2 hn
      have e2 := ha.symm.trans e; injection e2 with e2; subst e2
      rw [hg] at hp; injection hp with hp; subst hp
      show a.block ≠ w1.heap.size; omega
  refine ⟨by rw [List.flatMap_append]; exact own, fun t ht => ?_, fun t ht => ?_, fun t ht => ?_, fun t ht => ?_, fun t ht => ?_, fun t ht => ?_⟩ <;> rcases List.mem_append.1 ht with ht | ht
  · exact mv (h.fr t ht) (h.fne t ht)
  · exact mv (f2 t ht) (fn2 t ht)
  · exact mv (h.to t ht) (h.tne t ht)
  · exact mv (t2 t ht) (tn2 t ht)
  · exact ap (h.fr t ht) (h.fne t ht)
  · exact ap (f2 t ht) (fn2 t ht)
  · exact ap (h.to t ht) (h.tne t ht)
  · exact ap (t2 t ht) (tn2 t ht)
  · exact h.fnew t ht
  · exact fl2 t ht
  · exact h.tnew t ht
  · exact tl2 t ht
end
/-- a store into a block of another type below the words -/
theorem RwL.far {w : World} {B L k pc : Nat} {P : Option Addr} {ts : List RwT} (h : RwL w B L P k pc ts) {p : Addr} {ty : TypeId} {cs : Array Value} (hp : Blk w p.block ty cs) (hne : ty ≠ 85) (hL : p.block < L) (u : Value) : RwL (w.setCell p u) B L P k pc ts :=
  ⟨h.own.move fun a ha => Below.heap_setCell w p u a.block (h.own.ne_ hp hne a ha), fun t ht => Rd.atBlk (h.fr t ht) (fun a ha _ => Below.heap_setCell w p u a.block (by have := h.fnew t ht a ha; omega)) (by simp),
    fun t ht => Rd.atBlk (h.to t ht) (fun a ha _ => Below.heap_setCell w p u a.block (by have := h.tnew t ht a ha; omega)) (by simp), h.fne, h.tne, h.fnew, h.tnew⟩
theorem info_Rw : (Try.prog.info? 85).map (fun i => (i.zero, i.size, i.bytes)) = some (some (.agg #[.slice none 0 0, .slice none 0 0]), 2, 48) := by kernel_rfl
theorem hdR_one (ts : List RwT) : ∀ u ∈ ts.flatMap hdR, u.oneCell' = true := by
  intro u hu
  obtain ⟨t, _, ht⟩ := List.mem_flatMap.1 hu
  simp only [hdR, List.mem_cons, List.not_mem_nil, or_false] at ht
  rcases ht with rfl | rfl <;> rfl
/-- append of one rule that lies in a block -/
theorem wp_appRw {ops : Array Oper} {rest : List Oper} {o : Oper} {a : Act} {w : World} {Q : Exit → Act → World → Prop} (hgd : o.guard = none) (s x : Operand)
    (ho : o.op = .call { callee := .builtin .append, args := #[s, x], argTypes := #[55, 55] })
    (B L : Nat) (P : Option Addr) (k pc : Nat) (ts : List RwT) (hs : a.eval s = .slice P k pc) (h0 : RwL w B L P k pc ts) (hB0 : B ≤ w.heap.size)
    (g : Nat) (t : RwT) (hx : a.eval x = .slice (some ⟨g, 0, none⟩) 1 1) (hg : Blk w g 85 #[.slice t.fA t.fn t.fc, .slice t.tA t.tn t.tc])
    (f2 : RdI w t.fA t.fn t.fx) (t2 : RdI w t.tA t.tn t.tx) (fn2 : ∀ a p, t.fA = some a → P = some p → 0 < t.fn → a.block ≠ p.block) (tn2 : ∀ a p, t.tA = some a → P = some p → 0 < t.tn → a.block ≠ p.block) (fl2 : ∀ a, t.fA = some a → L ≤ a.block) (tl2 : ∀ a, t.tA = some a → L ≤ a.block) (hlen : k ≤ 1000000000)
    (h : ∀ A' cap w', RwL w' B L A' (k + 1) cap (ts ++ [t]) → Below B w w' → (∀ b, b < w.heap.size → (∀ ad', P = some ad' → ad'.block ≠ b) → w'.heap[b]? = w.heap[b]?) → w.heap.size ≤ w'.heap.size →
      wpList Try.prog ops Q rest (a.put o.dst (.slice A' (k + 1) cap)) w') : wpList Try.prog ops Q (o :: rest) a w := by
  refine wp_app hgd s x 55 85 (.agg #[.slice none 0 0, .slice none 0 0]) 2 48 ho Try.underlying55 info_Rw rfl (by omega) B P k pc (ts.flatMap hdR) hs h0.own ⟨g, 0, none⟩ 1 1 (hdR t) hx (by omega) (by rfl) ?_ (by have := hdR_one [t]; simpa using this) (by omega) (by omega) hB0 ?_
  · intro j u hj
    rw [head_add, hg.cell j, ← hj, hdR]
    exact List.getElem?_toArray
  · intro g' cap w3 own3 hb3 hk3 hg3 hz3
    refine h (some ⟨g', 0, none⟩) cap w3 (h0.ext (ts2 := [t]) (by simpa using f2) (by simpa using t2) (by simpa using fn2) (by simpa using tn2) (by simpa using fl2) (by simpa using tl2) (by simpa using own3) hk3 (hg3.elim (fun e => .inl e.symm) (fun e => .inr (by rw [e]))) hz3) hb3 hk3 hz3
/-- append of a list of rules of another call -/
theorem wp_appRws {ops : Array Oper} {rest : List Oper} {o : Oper} {a : Act} {w w0 : World} {Q : Exit → Act → World → Prop} (hgd : o.guard = none) (s x : Operand)
    (ho : o.op = .call { callee := .builtin .append, args := #[s, x], argTypes := #[55, 55] })
    (B L : Nat) (P : Option Addr) (k pc : Nat) (ts : List RwT) (hs : a.eval s = .slice P k pc) (h0 : RwL w0 B L P k pc ts) (hB0 : B ≤ w0.heap.size) (hL0 : L ≤ w0.heap.size) (hb : Below w0.heap.size w0 w)
    (P2 : Option Addr) (k2 pc2 : Nat) (ts2 : List RwT) (hx : a.eval x = .slice P2 k2 pc2) (h2 : RwL w w0.heap.size w0.heap.size P2 k2 pc2 ts2) (hlen : k + k2 ≤ 1000000000)
    (h : ∀ A' cap w', RwL w' B L A' (k + k2) cap (ts ++ ts2) → Below B w w' → w.heap.size ≤ w'.heap.size →
      wpList Try.prog ops Q rest (a.put o.dst (.slice A' (k + k2) cap)) w') : wpList Try.prog ops Q (o :: rest) a w := by
  have hPlt : ∀ p, P = some p → p.block < w0.heap.size := fun p hp => (h0.own.block hp).2.1
  have h1 := h0.keep hb
  have hbz := hb.size
  have fin : ∀ A' cap w', Own w' B 85 2 A' (k + k2) cap (ts.flatMap hdR ++ ts2.flatMap hdR) → (∀ b, b < w.heap.size → (∀ ad', P = some ad' → ad'.block ≠ b) → w'.heap[b]? = w.heap[b]?) → (A' = P ∨ A' = some ⟨w.heap.size, 0, none⟩) → w.heap.size ≤ w'.heap.size → RwL w' B L A' (k + k2) cap (ts ++ ts2) := fun A' cap w' own hk hg hz =>
    h1.ext h2.fr h2.to (fun t ht a p ha hp _ => by have := h2.fnew t ht a ha; have := hPlt p hp; omega) (fun t ht a p ha hp _ => by have := h2.tnew t ht a ha; have := hPlt p hp; omega) (fun t ht a ha => Nat.le_trans hL0 (h2.fnew t ht a ha)) (fun t ht a ha => Nat.le_trans hL0 (h2.tnew t ht a ha)) own hk hg hz
  by_cases hk2 : 0 < k2
  · obtain ⟨hl, hc⟩ := h2.own.wrK.rd
    obtain ⟨ad, rfl, hab, hcs⟩ := hc (by omega)
    refine wp_app hgd s x 55 85 (.agg #[.slice none 0 0, .slice none 0 0]) 2 48 ho Try.underlying55 info_Rw rfl (by omega) B P k pc (ts.flatMap hdR) hs h1.own ad k2 pc2 (ts2.flatMap hdR) hx hk2 hl hcs (hdR_one ts2) (by omega) (by omega) (by omega) ?_
    intro g' cap w3 own3 hb3 hk3 hg3 hz3
    exact h (some ⟨g', 0, none⟩) cap w3 (fin _ _ _ own3 hk3 (hg3.elim (fun e => .inl e.symm) (fun e => .inr (by rw [e]))) hz3) hb3 hz3
  · obtain rfl : k2 = 0 := by omega
    have hts : ts2 = [] := List.length_eq_zero_iff.1 h2.len
    subst hts
    refine wp_app0 hgd s x 55 85 (.agg #[.slice none 0 0, .slice none 0 0]) 2 48 ho Try.underlying55 info_Rw P k pc hs h0.own.cap P2 pc2 hx ?_
    exact h P pc w (by simpa using h1) ⟨rfl, rfl, rfl, Nat.le_refl _, fun _ _ => rfl⟩ (Nat.le_refl _)

/-- a captured list of rules -/
def RwC (w : World) (B L b : Nat) (ts : List RwT) : Prop := ∃ P pc, Blk w b 55 #[.slice P ts.length pc] ∧ RwL w B L P ts.length pc ts
def rwT (g : Nat) (fx tx : List Int) : RwT := ⟨some ⟨g, 0, none⟩, fx.length, fx.length, fx, some ⟨g + 1, 0, none⟩, tx.length, tx.length, tx⟩
theorem RwC.keep {w w' : World} {B L b : Nat} {ts : List RwT} (h : RwC w B L b ts) (hb : Below w.heap.size w w') : RwC w' B L b ts := by
  obtain ⟨P, pc, h1, h2⟩ := h
  exact ⟨P, pc, h1.keep hb, h2.keep hb⟩
set_option maxHeartbeats 1000000 in
set_option maxRecDepth 100000 in
theorem rwAdd2_c (b B L : Nat) (fx tx : List Int) (ts : List RwT) (w : World) (cs1 cs2 : Array Value) (e1 : cs1.toList = fx.map i64) (e2 : cs2.toList = tx.map i64) (h : RwC w B L b ts) (hB : B ≤ b) (hL : b < L) (hLw : L ≤ w.heap.size) (hts : ts.length ≤ 1000000) :
    Calls Try.prog 103 #[.slice (some ⟨w.heap.size, 0, none⟩) fx.length fx.length, .slice (some ⟨w.heap.size + 1, 0, none⟩) tx.length tx.length, .pointer (some ⟨b, 0, none⟩)] ((w.alloc (.cells cs1 2)).alloc (.cells cs2 2)) fun e w' =>
      e = .returned (.tuple #[]) ∧ RwC w' B L b (ts ++ [rwT w.heap.size fx tx]) ∧ Below B w w' := by
  obtain ⟨P, pc, hP, hR⟩ := h
  have hbl := hP.lt
  obtain ⟨w2, hw2⟩ : ∃ w2, (w.alloc (.cells cs1 2)).alloc (.cells cs2 2) = w2 := ⟨_, rfl⟩
  have hz2 : w.heap.size + 2 ≤ w2.heap.size := by rw [← hw2]; simp
  have E2 := Lib.hid (show Below w.heap.size w w2 by rw [← hw2]; exact (below_size.alloc (Nat.le_refl _) _).alloc (by simp) _)
  have F2 := Lib.hid (show RdI w2 (some ⟨w.heap.size, 0, none⟩) fx.length fx by
    rw [← hw2]
    exact ((Blk.new w 2 cs1).alloc _).rd (by rw [e1]; exact List.take_of_length_le (by simp)) (by rw [← Array.length_toList, e1]; simp))
  have T2 := Lib.hid (show RdI w2 (some ⟨w.heap.size + 1, 0, none⟩) tx.length tx by
    rw [← hw2]
    have := Blk.new (w.alloc (.cells cs1 2)) 2 cs2
    rw [World.size_alloc] at this
    exact this.rd (by rw [e2]; exact List.take_of_length_le (by simp)) (by rw [← Array.length_toList, e2]; simp))
  have P2 := Lib.hid (hP.keep E2.out); have R2 := Lib.hid (hR.keep E2.out)
  have hPlt : ∀ p, P = some p → p.block < w.heap.size := fun p hp => (hR.own.block hp).2.1
  have HPL := Lib.hid hPlt
  have c0 : w2.cell? ⟨b, 0, none⟩ = some (.slice P ts.length pc) := P2.out.cell 0
  rw [hw2]
  clear hP hR e1 e2 hPlt hw2
  go_enter Try.func103, Try.ntmps103
  go_wp2_with (at_builtin; refine wp_appRw (by rfl) _ _ (by rfl) B L P ts.length pc ts (by rfl) (by exact R2.out.keep (below_size.alloc (Nat.le_refl _) _)) (by rw [World.size_alloc]; omega) w2.heap.size (rwT w.heap.size fx tx) (by rfl) (by exact Blk.new _ _ _) (by exact RdI.below F2.out (below_size.alloc (Nat.le_refl _) _)) (by exact RdI.below T2.out (below_size.alloc (Nat.le_refl _) _)) (by intro a p ha hp _; injection ha with ha; subst ha; have := HPL.out p hp; show w.heap.size ≠ p.block; omega) (by intro a p ha hp _; injection ha with ha; subst ha; have := HPL.out p hp; show w.heap.size + 1 ≠ p.block; omega) (by intro a ha; injection ha with ha; subst ha; show L ≤ w.heap.size; omega) (by intro a ha; injection ha with ha; subst ha; show L ≤ w.heap.size + 1; omega) (by omega) ?_; intro A' cap w3 hR3 hb3 hk3 hz3; have C3 : Blk w3 b 55 #[.slice P ts.length pc] := (hk3 b (by rw [World.size_alloc]; omega) (fun ad' hp => R2.out.own.ne_ P2.out (by decide) ad' hp)).trans (P2.out.alloc _); have c3 := C3.cell 0; have f3 := C3.frozen 0; simp at c3)
  have H3 := Lib.hid hR3
  have B3 := Lib.hid ((E2.out.mono (by omega)).alloc (by omega) (.cells #[.slice (some ⟨w.heap.size, 0, none⟩) fx.length fx.length, .slice (some ⟨w.heap.size + 1, 0, none⟩) tx.length tx.length] 85) |>.trans hb3)
  have HC3 := Lib.hid C3
  clear hR3 hb3 hk3 C3
  go_end0
  have hlen : (ts ++ [rwT w.heap.size fx tx]).length = ts.length + 1 := by simp
  refine ⟨rfl, ⟨A', cap, ?_, ?_⟩, B3.out.setCell (p := ⟨b, 0, none⟩) hB _⟩
  · rw [hlen]; exact HC3.out.set_ 0 _
  · rw [hlen]
    exact H3.out.far (p := ⟨b, 0, none⟩) HC3.out (by decide) (by show b < L; omega) _
theorem keepB' {B : Nat} {w w' : World} {p : Addr} {v : Value} (hb : Below B w w') (hp : p.block < B) (h : w.cell? p = some v) : w'.cell? p = some v := keepB hb hp h
set_option maxHeartbeats 4000000 in
set_option maxRecDepth 100000 in
theorem rewritesOf_c (s : Nat) (t e : Int) (RA : Option Addr) (rn rc q : Nat) (a : Int) (r : Rule3) (w : World) (hs : 2 ≤ s ∧ s ≤ 6) (he : e = s + t) (ht : 1 ≤ t ∧ t ≤ 1000) (hq : q ≤ 100000) (ha : 0 ≤ a ∧ a ≤ 100000) (hr : 0 ≤ r.2.2 ∧ r.2.2 ≤ 100000) :
    Calls Try.prog 95 #[.agg #[.int .i64 s, .int .i64 e], .agg #[.int .i64 s, .int .i64 t, .slice RA rn rc], .int .i64 q, .int .i64 a, .agg #[.int .i64 r.1, .int .i64 r.2.1, .int .i64 r.2.2]] w fun e' w' =>
      ∃ P pc ts, e' = .returned (.slice P ts.length pc) ∧ RwL w' w.heap.size w.heap.size P ts.length pc ts ∧ ts.map datR = rwOf s e ((s : Int) + (q : Int)) a r ∧ Below w.heap.size w w' := by
  obtain ⟨b, mv, nx⟩ := r
  simp only at hr ⊢
  have he2 : 0 ≤ e ∧ e ≤ 2000 := by omega
  clear he
  obtain ⟨w3, hw3⟩ : ∃ w3, ((w.alloc (.cells #[.int .i64 s, .int .i64 e] 99)).alloc (.cells #[.int .i64 s, .int .i64 t, .slice RA rn rc] 35)).alloc (.cells #[.int .i64 b, .int .i64 mv, .int .i64 nx] 80) = w3 := ⟨_, rfl⟩
  have hz3 : w.heap.size + 3 ≤ w3.heap.size := by rw [← hw3]; simp
  have E3 := Lib.hid (show Below w.heap.size w w3 by rw [← hw3]; exact ((below_size.alloc (Nat.le_refl _) _).alloc (by simp) _).alloc (by simp; omega) _)
  have KA := Lib.hid (show Blk w3 w.heap.size 99 #[.int .i64 s, .int .i64 e] by rw [← hw3]; exact ((Blk.new _ _ _).alloc _).alloc _)
  have KM := Lib.hid (show Blk w3 (w.heap.size + 1) 35 #[.int .i64 s, .int .i64 t, .slice RA rn rc] by
    rw [← hw3]
    have := Blk.new (w.alloc (.cells #[.int .i64 s, .int .i64 e] 99)) 35 #[.int .i64 s, .int .i64 t, .slice RA rn rc]
    rw [World.size_alloc] at this
    exact this.alloc _)
  have KR := Lib.hid (show Blk w3 (w.heap.size + 1 + 1) 80 #[.int .i64 b, .int .i64 mv, .int .i64 nx] by
    rw [← hw3]
    have := Blk.new ((w.alloc (.cells #[.int .i64 s, .int .i64 e] 99)).alloc (.cells #[.int .i64 s, .int .i64 t, .slice RA rn rc] 35)) 80 #[.int .i64 b, .int .i64 mv, .int .i64 nx]
    rw [World.size_alloc, World.size_alloc] at this
    exact this)
  have y0 : w3.cell? ⟨w.heap.size, 0, none⟩ = some (.int .i64 s) := KA.out.cell 0
  have y1 : w3.cell? ⟨w.heap.size, 1, none⟩ = some (.int .i64 e) := KA.out.cell 1
  have y2 : w3.cell? ⟨w.heap.size + 1 + 1, 2, none⟩ = some (.int .i64 nx) := KR.out.cell 2
  have v1 : IntKind.i64.wrap ((s : Int) + (q : Int)) = (s : Int) + (q : Int) := IntWalk.i64_in _ (by omega)
  have v2 : IntKind.i64.wrap ((s : Int) + nx) = (s : Int) + nx := IntWalk.i64_in _ (by omega)
  go_enter Try.func95, Try.ntmps95
  go_wp2_with fail
  go_quiet (fail)
  obtain ⟨w4, hw4⟩ : ∃ w4, w3.drewN nq = w4 := ⟨_, rfl⟩
  rw [hw4]
  have E4 := Lib.hid (show Below w.heap.size w w4 by rw [← hw4]; exact below_drewN E3.out _)
  have hz4 : w.heap.size + 3 ≤ w4.heap.size := by rw [← hw4]; exact hz3
  have RB := Lib.hid (show Blk w4 (w.heap.size + 1 + 1) 80 #[.int .i64 b, .int .i64 mv, .int .i64 nx] by rw [← hw4]; exact KR.out)
  have MB := Lib.hid (show Blk w4 (w.heap.size + 1) 35 #[.int .i64 s, .int .i64 t, .slice RA rn rc] by rw [← hw4]; exact KM.out)
  clear hw4 hw3 y0 y1 y2 E3 KA KM KR
  obtain ⟨w6, hw6⟩ : ∃ w6, (w4.alloc (.cells #[] 85)).alloc (.cells #[.slice (some ⟨w4.heap.size, 0, none⟩) 0 0] 55) = w6 := ⟨_, rfl⟩
  have E6 := Lib.hid (show Below w4.heap.size w4 w6 by rw [← hw6]; exact (below_size.alloc (Nat.le_refl _) _).alloc (by simp) _)
  have hz6 : w4.heap.size + 2 ≤ w6.heap.size := by rw [← hw6]; simp
  have HC6 := Lib.hid (show RwC w6 w4.heap.size (w4.heap.size + 2) (w4.heap.size + 1) [] by
    refine ⟨some ⟨w4.heap.size, 0, none⟩, 0, ?_, RwL.nil ?_⟩
    · rw [← hw6]
      have := Blk.new (w4.alloc (.cells #[] 85)) 55 #[.slice (some ⟨w4.heap.size, 0, none⟩) 0 0]
      rwa [World.size_alloc] at this
    · rw [← hw6]; exact (Own.litK (Nat.le_refl _)).alloc _)
  have z0 := RB.out.keep E6.out; have zm := MB.out.keep E6.out
  have x0 : w6.cell? ⟨w.heap.size + 1 + 1, 0, none⟩ = some (.int .i64 b) := z0.cell 0
  have x1 : w6.cell? ⟨w.heap.size + 1 + 1, 1, none⟩ = some (.int .i64 mv) := z0.cell 1
  have x2 : w6.cell? ⟨w.heap.size + 1, 0, none⟩ = some (.int .i64 s) := zm.cell 0
  clear z0 zm
  have HX0 := Lib.hid x0; have HX1 := Lib.hid x1; have HX2 := Lib.hid x2
  by_cases hm : mv = 1
  · subst hm
    clear x0
    obtain ⟨wa, hwa⟩ : ∃ wa, w6.alloc (.cells #[.int .i64 ((s : Int) + q), .int .i64 a] 2) = wa := ⟨_, rfl⟩
    have u0 : wa.cell? ⟨w.heap.size + 1 + 1, 0, none⟩ = some (.int .i64 b) := by rw [← hwa]; exact ((RB.out.keep E6.out).alloc _).cell 0
    go_wp2_with fail
    subst hwa
    simp only [World.size_alloc]
    refine (rwAdd2_c (w4.heap.size + 1) w4.heap.size (w4.heap.size + 2) [(s : Int) + q, a] [b, (s : Int) + nx] [] w6 _ _ (by rfl) (by rfl) HC6.out (by omega) (by omega) (by omega) (by first | (simp; done) | (simp; omega) | omega)).mono ?_
    rintro e' w7 ⟨rfl, h7, b7⟩
    have HC7 := Lib.hid h7; have E7 := Lib.hid (show Below w4.heap.size w4 w7 from E6.out.trans b7)
    have hz7 : w4.heap.size + 2 ≤ w7.heap.size := Nat.le_trans hz6 b7.size
    have x2 : w7.cell? ⟨w.heap.size + 1, 0, none⟩ = some (.int .i64 s) := (MB.out.keep E7.out).cell 0
    clear h7 b7 u0
    by_cases h0 : a = 0
    · subst h0
      clear x2
      obtain ⟨wa, hwa⟩ : ∃ wa, w7.alloc (.cells #[.int .i64 ((s : Int) + q), .int .i64 e] 2) = wa := ⟨_, rfl⟩
      have u0 : wa.cell? ⟨w.heap.size + 1 + 1, 0, none⟩ = some (.int .i64 b) := by rw [← hwa]; exact ((RB.out.keep E7.out).alloc _).cell 0
      go_wp2_with fail
      subst hwa
      simp only [World.size_alloc]
      refine (rwAdd2_c (w4.heap.size + 1) w4.heap.size (w4.heap.size + 2) [(s : Int) + q, e] [b, (s : Int) + nx, e] ([] ++ [rwT w6.heap.size [(s : Int) + q, 0] [b, (s : Int) + nx]]) w7 _ _ (by rfl) (by rfl) HC7.out (by omega) (by omega) (by omega) (by first | (simp; done) | (simp; omega) | omega)).mono ?_
      rintro e' w8 ⟨rfl, h8, b8⟩
      have HC8 := Lib.hid h8; have E8 := Lib.hid (show Below w4.heap.size w4 w8 from E7.out.trans b8)
      have hz8 : w4.heap.size + 2 ≤ w8.heap.size := Nat.le_trans hz7 b8.size
      have x2 : w8.cell? ⟨w.heap.size + 1, 0, none⟩ = some (.int .i64 s) := (MB.out.keep E8.out).cell 0
      clear h8 b8 u0
      have HT8 := Lib.hid (show (([] ++ [rwT w6.heap.size [(s : Int) + q, 0] [b, (s : Int) + nx]]) ++ [rwT w7.heap.size [(s : Int) + q, e] [b, (s : Int) + nx, e]]).map datR = rwOf s e ((s : Int) + q) 0 (b, 1, nx) from rfl)
      obtain ⟨P, pc, hP, hR⟩ := HC8.out
      have p0 := hP.cell 0
      simp at p0
      have HR := Lib.hid hR
      clear hP hR
      go_wp2_with fail
      go_ret
      exact ⟨P, pc, _, by first | rfl | (simp; done) | (simp; omega), HR.out.widen (by omega) (by omega), HT8.out, E4.out.trans (E8.out.mono (by omega))⟩
    · have g0 : (a == 0) = false := by simpa using h0
      have HT7 := Lib.hid (show ([] ++ [rwT w6.heap.size [(s : Int) + q, a] [b, (s : Int) + nx]]).map datR = rwOf s e ((s : Int) + q) a (b, 1, nx) by rw [rwOf, if_pos rfl, if_neg h0]; rfl)
      obtain ⟨P, pc, hP, hR⟩ := HC7.out
      have p0 := hP.cell 0
      simp at p0
      have HR := Lib.hid hR
      clear hP hR
      go_wp2_with fail
      go_ret
      exact ⟨P, pc, _, by first | rfl | (simp; done) | (simp; omega), HR.out.widen (by omega) (by omega), HT7.out, E4.out.trans (E7.out.mono (by omega))⟩
  · have g1 : (mv == 1) = false := by simpa using hm
    go_wp2_with fail
    clear x0 x1
    go_loopw [58] (fun cv wr => ∃ (c : Nat) (ts : List RwT), c ≤ s ∧ cv = .int .i64 c ∧ Hid (RwC wr w4.heap.size (w4.heap.size + 2) (w4.heap.size + 1) ts) ∧ Hid (ts.map datR = (List.range c).map (fun (c : Nat) => (([(c : Int), (s : Int) + q, a], [(s : Int) + nx, c, b]) : Rw))) ∧ Hid (Below w4.heap.size w4 wr) ∧ w4.heap.size + 2 ≤ wr.heap.size) (fun cv _ => s - (intOf cv).toNat)
    case atStart => exact ⟨0, [], by omega, rfl, HC6.out, rfl, E6.out, hz6⟩
    case round =>
      clear x2
      obtain ⟨c, ts, hcs, rfl, HCr, hT, Er, hzr⟩ := hrel
      have hlen : ts.length = c := by have := congrArg List.length hT.out; simpa using this
      by_cases hlt : c < s
      · skip
        obtain ⟨wa, hwa⟩ : ∃ wa, wr.alloc (.cells #[.int .i64 (c : Int), .int .i64 ((s : Int) + q), .int .i64 a] 2) = wa := ⟨_, rfl⟩
        have u0 : wa.cell? ⟨w.heap.size + 1 + 1, 0, none⟩ = some (.int .i64 b) := by rw [← hwa]; exact ((RB.out.keep Er.out).alloc _).cell 0
        go_wp2_with fail
        subst hwa
        simp only [World.size_alloc]
        refine (rwAdd2_c (w4.heap.size + 1) w4.heap.size (w4.heap.size + 2) [(c : Int), (s : Int) + q, a] [(s : Int) + nx, (c : Int), b] ts wr _ _ (by rfl) (by rfl) HCr.out (by omega) (by omega) (by omega) (by first | (simp; done) | (simp; omega) | omega)).mono ?_
        rintro e' w7 ⟨rfl, h7, b7⟩
        have HC7 := Lib.hid h7; have E7 := Lib.hid (show Below w4.heap.size w4 w7 from Er.out.trans b7)
        have hz7 : w4.heap.size + 2 ≤ w7.heap.size := Nat.le_trans hzr b7.size
        have x2 : w7.cell? ⟨w.heap.size + 1, 0, none⟩ = some (.int .i64 s) := (MB.out.keep E7.out).cell 0
        clear h7 b7 u0
        have HT7 := Lib.hid (show (ts ++ [rwT wr.heap.size [(c : Int), (s : Int) + q, a] [(s : Int) + nx, (c : Int), b]]).map datR = (List.range (c + 1)).map (fun (c : Nat) => (([(c : Int), (s : Int) + q, a], [(s : Int) + nx, c, b]) : Rw)) by
          rw [List.map_append, hT.out, List.range_succ, List.map_append]; rfl)
        go_wp2_with fail
        go_roundw
        case rel => exact ⟨c + 1, _, by omega, by go_num, HC7.out, HT7.out, E7.out, hz7⟩
        case measure => simp [intOf]; omega
      · obtain rfl : s = c := by omega
        obtain ⟨wa, hwa⟩ : ∃ wa, wr.alloc (.cells #[.int .i64 e, .int .i64 ((s : Int) + q), .int .i64 a] 2) = wa := ⟨_, rfl⟩
        have u0 : wa.cell? ⟨w.heap.size + 1 + 1, 0, none⟩ = some (.int .i64 b) := by rw [← hwa]; exact ((RB.out.keep Er.out).alloc _).cell 0
        go_wp2_with fail
        subst hwa
        simp only [World.size_alloc]
        refine (rwAdd2_c (w4.heap.size + 1) w4.heap.size (w4.heap.size + 2) [e, (s : Int) + q, a] [e, (s : Int) + nx, 0, b] ts wr _ _ (by rfl) (by rfl) HCr.out (by omega) (by omega) (by omega) (by first | (simp; done) | (simp; omega) | omega)).mono ?_
        rintro e' w7 ⟨rfl, h7, b7⟩
        have HC7 := Lib.hid h7; have E7 := Lib.hid (show Below w4.heap.size w4 w7 from Er.out.trans b7)
        have hz7 : w4.heap.size + 2 ≤ w7.heap.size := Nat.le_trans hzr b7.size
        have x2 : w7.cell? ⟨w.heap.size + 1, 0, none⟩ = some (.int .i64 s) := (MB.out.keep E7.out).cell 0
        clear h7 b7 u0
        obtain ⟨t1, ht1⟩ : ∃ t1, ts ++ [rwT wr.heap.size [e, (s : Int) + q, a] [e, (s : Int) + nx, 0, b]] = t1 := ⟨_, rfl⟩
        have HT1 := Lib.hid (show t1.map datR = (List.range s).map (fun (d : Nat) => (([(d : Int), (s : Int) + q, a], [(s : Int) + nx, d, b]) : Rw)) ++ [([e, (s : Int) + q, a], [e, (s : Int) + nx, 0, b])] by
          rw [← ht1, List.map_append, hT.out]; rfl)
        rw [ht1] at HC7
        have hlen1 : t1.length = s + 1 := by rw [← ht1]; simp [hlen]
        clear ht1 hT HCr Er hzr hlen
        by_cases h0 : a = 0
        · subst h0
          go_wp2_with fail
          obtain ⟨wo, rfl⟩ : ∃ wo : World, wo = wr := ⟨_, rfl⟩
          go_loopw [88] (fun cv wr => ∃ (d : Nat) (ts : List RwT), d ≤ s ∧ cv = .int .i64 d ∧ Hid (RwC wr w4.heap.size (w4.heap.size + 2) (w4.heap.size + 1) ts) ∧ Hid (ts.map datR = t1.map datR ++ (List.range d).map (fun (d : Nat) => (([(d : Int), (s : Int) + q, e], [(s : Int) + nx, d, b, e]) : Rw))) ∧ Hid (Below w4.heap.size w4 wr) ∧ w4.heap.size + 2 ≤ wr.heap.size) (fun cv _ => s - (intOf cv).toNat)
          case atStart => exact ⟨0, t1, by omega, rfl, HC7.out, (by show _ = _; simp), E7.out, hz7⟩
          case round =>
            clear x2
            obtain ⟨d, ts, hdc, rfl, HCr, hT, Er, hzr⟩ := hrel
            have hlen : ts.length = s + 1 + d := by have := congrArg List.length hT.out; simp at this; omega
            by_cases hlt : d < s
            · skip
              obtain ⟨wa, hwa⟩ : ∃ wa, wr.alloc (.cells #[.int .i64 (d : Int), .int .i64 ((s : Int) + q), .int .i64 e] 2) = wa := ⟨_, rfl⟩
              have u0 : wa.cell? ⟨w.heap.size + 1 + 1, 0, none⟩ = some (.int .i64 b) := by rw [← hwa]; exact ((RB.out.keep Er.out).alloc _).cell 0
              go_wp2_with fail
              subst hwa
              simp only [World.size_alloc]
              refine (rwAdd2_c (w4.heap.size + 1) w4.heap.size (w4.heap.size + 2) [(d : Int), (s : Int) + q, e] [(s : Int) + nx, (d : Int), b, e] ts wr _ _ (by rfl) (by rfl) HCr.out (by omega) (by omega) (by omega) (by first | (simp; done) | (simp; omega) | omega)).mono ?_
              rintro e' w8 ⟨rfl, h8, b8⟩
              have HC8 := Lib.hid h8; have E8 := Lib.hid (show Below w4.heap.size w4 w8 from Er.out.trans b8)
              have hz8 : w4.heap.size + 2 ≤ w8.heap.size := Nat.le_trans hzr b8.size
              have x2 : w8.cell? ⟨w.heap.size + 1, 0, none⟩ = some (.int .i64 s) := (MB.out.keep E8.out).cell 0
              clear h8 b8 u0
              have HT8 := Lib.hid (show (ts ++ [rwT wr.heap.size [(d : Int), (s : Int) + q, e] [(s : Int) + nx, (d : Int), b, e]]).map datR = t1.map datR ++ (List.range (d + 1)).map (fun (d : Nat) => (([(d : Int), (s : Int) + q, e], [(s : Int) + nx, d, b, e]) : Rw)) by
                rw [List.map_append, hT.out, List.range_succ, List.map_append, List.append_assoc]; rfl)
              go_wp2_with fail
              go_roundw
              case rel => exact ⟨d + 1, _, by omega, by go_num, HC8.out, HT8.out, E8.out, hz8⟩
              case measure => simp [intOf]; omega
            · obtain rfl : s = d := by omega
              obtain ⟨wa, hwa⟩ : ∃ wa, wr.alloc (.cells #[.int .i64 e, .int .i64 ((s : Int) + q), .int .i64 e] 2) = wa := ⟨_, rfl⟩
              have u0 : wa.cell? ⟨w.heap.size + 1 + 1, 0, none⟩ = some (.int .i64 b) := by rw [← hwa]; exact ((RB.out.keep Er.out).alloc _).cell 0
              go_wp2_with fail
              subst hwa
              simp only [World.size_alloc]
              refine (rwAdd2_c (w4.heap.size + 1) w4.heap.size (w4.heap.size + 2) [e, (s : Int) + q, e] [e, (s : Int) + nx, 0, b, e] ts wr _ _ (by rfl) (by rfl) HCr.out (by omega) (by omega) (by omega) (by first | (simp; done) | (simp; omega) | omega)).mono ?_
              rintro e' w8 ⟨rfl, h8, b8⟩
              have HC8 := Lib.hid h8; have E8 := Lib.hid (show Below w4.heap.size w4 w8 from Er.out.trans b8)
              have hz8 : w4.heap.size + 2 ≤ w8.heap.size := Nat.le_trans hzr b8.size
              have x2 : w8.cell? ⟨w.heap.size + 1, 0, none⟩ = some (.int .i64 s) := (MB.out.keep E8.out).cell 0
              clear h8 b8 u0
              have HT8 := Lib.hid (show (ts ++ [rwT wr.heap.size [e, (s : Int) + q, e] [e, (s : Int) + nx, 0, b, e]]).map datR = rwOf s e ((s : Int) + q) 0 (b, mv, nx) by
                rw [List.map_append, hT.out, HT1.out, rwOf, if_neg hm, if_pos rfl, List.append_assoc, List.append_assoc]; rfl)
              obtain ⟨P, pc, hP, hR⟩ := HC8.out
              have p0 := hP.cell 0
              simp at p0
              have HR := Lib.hid hR
              clear hP hR
              go_wp2_with fail
              go_ret
              exact ⟨P, pc, _, by first | rfl | (simp; done) | (simp; omega), HR.out.widen (by omega) (by omega), HT8.out, E4.out.trans (E8.out.mono (by omega))⟩
        · have g0 : (a == 0) = false := by simpa using h0
          have HT7 := Lib.hid (show t1.map datR = rwOf s e ((s : Int) + q) a (b, mv, nx) by rw [HT1.out, rwOf, if_neg hm, if_neg h0])
          obtain ⟨P, pc, hP, hR⟩ := HC7.out
          have p0 := hP.cell 0
          simp at p0
          have HR := Lib.hid hR
          clear hP hR
          go_wp2_with fail
          go_ret
          exact ⟨P, pc, _, by first | rfl | (simp; done) | (simp; omega), HR.out.widen (by omega) (by omega), HT7.out, E4.out.trans (E7.out.mono (by omega))⟩
end Go.Proofs.Ytcbcjhfeidkeaaa
