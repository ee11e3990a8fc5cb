/-
  Contracts of chapter 16: DerivationOfRun of the program: a run whose visit notes the steps.
-/
import Derived.Test.YtcbcjhfeidkeaaaC16y
namespace Go.Proofs.Ytcbcjhfeidkeaaa
open Go.RowKit

/-- all but the block of a variable and the block of a slice's head stays -/
structure KeepE (g : Nat) (O : Option Addr) (w w' : World) : Prop where
  os : w'.os = w.os
  tape : w'.tape = w.tape
  output : w'.output = w.output
  size : w.heap.size ≤ w'.heap.size
  block : ∀ b, b < w.heap.size → b ≠ g → (∀ ad, O = some ad → ad.block ≠ b) → w'.heap[b]? = w.heap[b]?
section
variable {g : Nat} {O O' : Option Addr} {w a b c w' : World}
theorem KeepE.refl : KeepE g O w w := ⟨rfl, rfl, rfl, Nat.le_refl _, fun _ _ _ _ => rfl⟩
theorem KeepE.of_below (h : Below w.heap.size w w') : KeepE g O w w' := ⟨h.os, h.tape, h.output, h.size, fun k hk _ _ => h.block k hk⟩
theorem KeepE.below (h : KeepE g O a b) (k : Below b.heap.size b c) : KeepE g O a c :=
  ⟨k.os.trans h.os, k.tape.trans h.tape, k.output.trans h.output, Nat.le_trans h.size k.size, fun i hi h1 h2 => (k.block i (Nat.lt_of_lt_of_le hi h.size)).trans (h.block i hi h1 h2)⟩
theorem KeepE.trans (h : KeepE g O a b) (k : KeepE g O' b c) (hO : O' = O ∨ ∀ ad, O' = some ad → a.heap.size ≤ ad.block) : KeepE g O a c :=
  ⟨k.os.trans h.os, k.tape.trans h.tape, k.output.trans h.output, Nat.le_trans h.size k.size, fun i hi h1 h2 => (k.block i (Nat.lt_of_lt_of_le hi h.size) h1 (fun ad e => by
    rcases hO with hO | hO
    · subst hO; exact h2 ad e
    · have := hO ad e; omega)).trans (h.block i hi h1 h2)⟩
theorem KeepE.setCell (h : KeepE g O a b) {p : Addr} (hp : a.heap.size ≤ p.block) (u : Value) : KeepE g O a (b.setCell p u) :=
  ⟨h.os, h.tape, h.output, by simpa using h.size, fun i hi h1 h2 => (Below.heap_setCell b p u i (by omega)).trans (h.block i hi h1 h2)⟩
theorem KeepE.toBelow (h : KeepE g O a b) {B : Nat} (hB : B ≤ a.heap.size) (hg : B ≤ g) (hO : ∀ ad, O = some ad → B ≤ ad.block) : Below B a b :=
  ⟨h.os, h.tape, h.output, h.size, fun k hk => h.block k (by omega) (by omega) fun ad e => by have := hO ad e; omega⟩
theorem Blk.keepE {x : Nat} {t : TypeId} {cs : Array Value} (h : Blk a x t cs) (k : KeepE g O a b) (h1 : x ≠ g) (h2 : ∀ ad, O = some ad → ad.block ≠ x) : Blk b x t cs := (k.block x h.lt h1 h2).trans h
theorem Rd.keepE {A : Option Addr} {n : Nat} {vs : List Value} (h : Rd a A n vs) (k : KeepE g O a b) (h1 : ∀ ad, A = some ad → 0 < n → ad.block ≠ g) (h2 : ∀ ad o, A = some ad → O = some o → 0 < n → o.block ≠ ad.block) : Rd b A n vs :=
  Rd.atBlk h (fun ad e hn => k.block _ (Rd.blocks h ad hn e) (h1 ad e hn) fun o ho => h2 ad o e ho hn) k.size
end
theorem OwnS.far {w : World} {B k n c : Nat} {e : TypeId} {A : Option Addr} {vs : List Value} {ss : List Seg} (h : OwnS w B e k A n c vs ss) {p : Addr} (hA : ∀ ad, A = some ad → ad.block ≠ p.block) (hs : ∀ s ∈ ss, ∀ ad, s.A = some ad → ad.block ≠ p.block) (u : Value) : OwnS (w.setCell p u) B e k A n c vs ss :=
  ⟨h.own.far hA u, ⟨fun s hs' => (h.wrs.each s hs').move (fun ad _ e => Below.heap_setCell w p u ad.block (hs s hs' ad e)) (by simp) (by simp), h.wrs.apart⟩, h.ne⟩
/-- the noted steps: the variable, the head, the rows -/
structure Noted (g B D : Nat) (O : Option Addr) (rows : List (Nat × Nat)) (w : World) : Prop where
  oc : ∃ (oc : Nat) (its : List It), Blk w g 43 #[.slice O rows.length oc] ∧ OwnS w B 25 1 O rows.length oc (its.map hdI) (its.map bodyI) ∧ its.map It.xs = rows.map stepL ∧ (∀ t ∈ its, t.n = 2) ∧ ∀ t ∈ its, ∀ ad, t.A = some ad → D ≤ ad.block
theorem Noted.keep {g B D : Nat} {O : Option Addr} {rows : List (Nat × Nat)} {w w' : World} (h : Noted g B D O rows w) (hb : Below w.heap.size w w') : Noted g B D O rows w' := by
  obtain ⟨oc, its, h1, h2, h3⟩ := h.oc
  exact ⟨oc, its, h1.keep hb, h2.keep hb, h3⟩
theorem Noted.glt {g B D : Nat} {O : Option Addr} {rows : List (Nat × Nat)} {w : World} (h : Noted g B D O rows w) : g < w.heap.size := by
  obtain ⟨oc, its, h1, _⟩ := h.oc
  exact h1.lt
theorem Noted.olt {g B D : Nat} {O : Option Addr} {rows : List (Nat × Nat)} {w : World} (h : Noted g B D O rows w) : ∀ ad, O = some ad → ad.block < w.heap.size := by
  obtain ⟨oc, its, _, h2, _⟩ := h.oc
  exact fun ad e => (h2.own.block e).2.1
theorem Noted.rebase {g B D D' : Nat} {O : Option Addr} {w : World} (h : Noted g B D O [] w) : Noted g B D' O [] w := by
  obtain ⟨oc, its, h1, h2, h3, _, _⟩ := h.oc
  have hi : its = [] := by simpa using h3
  subst hi
  exact ⟨oc, [], h1, h2, h3, (by simp), (by simp)⟩
/-- a store into a block of another type below the rows -/
theorem Noted.far {g B D x : Nat} {O : Option Addr} {rows : List (Nat × Nat)} {w : World} {ty : TypeId} {cs : Array Value} (h : Noted g B D O rows w) (hx : Blk w x ty cs) (ht : ty ≠ 25) (hg : g ≠ x) (hD : x < D) (i : Nat) (u : Value) : Noted g B D O rows (w.setCell ⟨x, i, none⟩ u) := by
  obtain ⟨oc, its, h1, h2, h3, h4, h5⟩ := h.oc
  refine ⟨oc, its, h1.far hg _, h2.far (fun ad e => h2.own.ne_ hx ht ad e) (fun s hs ad e => ?_) _, h3, h4, h5⟩
  obtain ⟨t, hts, rfl⟩ := List.mem_map.1 hs
  have := h5 t hts ad e
  show ad.block ≠ x; omega
set_option maxHeartbeats 4000000 in
set_option maxRecDepth 100000 in
theorem visitD_c (k a : Nat) (A : Option Addr) (n c g B D : Nat) (O : Option Addr) (rows : List (Nat × Nat)) (w : World) (hN : Noted g B D O rows w) (hgD : g < D) (hDw : D ≤ w.heap.size) (hB : B ≤ w.heap.size) (hj : rows.length ≤ 100000) :
    Calls Try.prog 48 #[.agg #[.int .i64 k, .int .i64 a, .slice A n c], .pointer (some ⟨g, 0, none⟩)] w fun e' w' => e' = .returned (.tuple #[]) ∧ ∃ O', Noted g B D O' (rows ++ [(k, a)]) w' ∧ KeepE g O w w' ∧ (O' = O ∨ ∀ ad, O' = some ad → w.heap.size ≤ ad.block) := by
  obtain ⟨oc, its, hC, hO, hX, h2, hg⟩ := hN.oc
  have hgl := hC.lt
  obtain ⟨j, hjl⟩ : ∃ j, rows.length = j := ⟨_, rfl⟩
  rw [hjl] at hC hO hj
  obtain ⟨w1, hw1⟩ : ∃ w1, w.alloc (.cells #[.int .i64 k, .int .i64 a, .slice A n c] 75) = w1 := ⟨_, rfl⟩
  have E1 := Lib.hid (show Below w.heap.size w w1 by rw [← hw1]; exact below_size.alloc (Nat.le_refl _) _)
  have K1 := Lib.hid (show Blk w1 w.heap.size 75 #[.int .i64 k, .int .i64 a, .slice A n c] by rw [← hw1]; exact Blk.new _ _ _)
  have HZ1 := Lib.hid (show w1.heap.size = w.heap.size + 1 by rw [← hw1]; simp)
  have C1 := Lib.hid (hC.keep E1.out); have O1 := Lib.hid (hO.keep E1.out)
  have HO := Lib.hid hO; have HC := Lib.hid hC; have HX := Lib.hid hX; have H2 := Lib.hid h2; have HG := Lib.hid hg; have HJ := Lib.hid hjl
  have k0 : w1.cell? ⟨w.heap.size, 0, none⟩ = some (.int .i64 k) := K1.out.cell 0
  have k1 : w1.cell? ⟨w.heap.size, 1, none⟩ = some (.int .i64 a) := K1.out.cell 1
  have c0 : w1.cell? ⟨g, 0, none⟩ = some (.slice O j oc) := C1.out.cell 0
  clear hC hO hX h2 hg hjl hN
  go_enter Try.func48, Try.ntmps48
  obtain ⟨w3, hw3⟩ : ∃ w3, (w1.alloc (.cells #[.int .i64 k, .int .i64 a] 2)).alloc (.cells #[.slice (some ⟨w1.heap.size, 0, none⟩) 2 2] 25) = w3 := ⟨_, rfl⟩
  have E13 := Lib.hid (show Below w1.heap.size w1 w3 by rw [← hw3]; exact (below_size.alloc (Nat.le_refl _) _).alloc (by simp) _)
  have E3 := Lib.hid (below_chain E1.out E1.out.size E13.out)
  have HZ3 := Lib.hid (show w3.heap.size = w1.heap.size + 2 by rw [← hw3]; simp)
  have KT := Lib.hid (show Blk w3 w1.heap.size 2 #[.int .i64 k, .int .i64 a] by rw [← hw3]; exact (Blk.new _ _ _).alloc _)
  have KH := Lib.hid (show Blk w3 (w1.heap.size + 1) 25 #[.slice (some ⟨w1.heap.size, 0, none⟩) 2 2] by rw [← hw3]; exact blk_new2 _ _ _ _ (by simp))
  have C3 := Lib.hid (HC.out.keep E3.out)
  have HW3 := Lib.hid hw3
  have hB3 : B ≤ w3.heap.size := by have := E3.out.size; omega
  have hg3 : g < w3.heap.size := by have := E3.out.size; omega
  clear hw3
  go_wp2_with (at_builtin; rw [HW3.out]; refine wp_app1 (by rfl) _ _ 43 25 (.slice none 0 0) 24 (by rfl) Try.underlying43 info_I64Sn rfl B O j oc (its.map hdI) (by rfl) (by exact O1.out.own.keep E13.out) (w1.heap.size + 1) (.slice (some ⟨w1.heap.size, 0, none⟩) 2 2) (by first | rfl | simp) (by exact KH.out.cell 0) rfl (by omega) (by omega) hB3 ?_; intro g' cap w4 own4 hb4 hk4 hg4 hz4; have C4 := Lib.hid (show Blk w4 g 43 #[.slice O j oc] from (hk4 g hg3 (fun ad e => HO.out.own.ne_ HC.out (by decide) ad e)).trans C3.out); have c4 : w4.cell? ⟨g, 0, none⟩ = some (.slice O j oc) := C4.out.cell 0; have f4 := C4.out.frozen 0)
  have P4 := Lib.hid (HO.out.push (s := sgI (some ⟨w1.heap.size, 0, none⟩) 2 [(k : Int), (a : Int)]) hB E3.out (KT.out.wr (lo := w.heap.size) (hi := w3.heap.size) (by have := HZ1.out; omega) (by have := HZ3.out; omega) rfl (by show 2 ≤ 2; omega)) own4 hk4 hg4 hz4)
  have Q4 := Lib.hid (OwnS.snocII (t := ⟨some ⟨w1.heap.size, 0, none⟩, 2, 2, [(k : Int), (a : Int)]⟩) P4.out)
  have hne : ∀ ad, some (⟨g', 0, none⟩ : Addr) = some ad → ad.block ≠ g := own4.ne_ C4.out (by decide)
  have NE := Lib.hid hne
  have B4 := Lib.hid hb4; have K4 := Lib.hid hk4; have G4 := Lib.hid hg4; have Z4 := Lib.hid hz4
  clear own4 hb4 hk4 hg4 hz4 hne c4 f4
  go_end0
  have hlen : (rows ++ [(k, a)]).length = j + 1 := by simp [HJ.out]
  have hgn : ∀ t ∈ its ++ [(⟨some ⟨w1.heap.size, 0, none⟩, 2, 2, [(k : Int), (a : Int)]⟩ : It)], ∀ ad, t.A = some ad → D ≤ ad.block := by
    intro t ht ad e
    rcases List.mem_append.1 ht with ht | ht
    · exact HG.out t ht ad e
    · rw [List.mem_singleton] at ht; subst ht
      injection e with e; subst e
      have := HZ1.out; show D ≤ w1.heap.size; omega
  refine ⟨rfl, some ⟨g', 0, none⟩, ⟨cap, its ++ [⟨some ⟨w1.heap.size, 0, none⟩, 2, 2, [(k : Int), (a : Int)]⟩], ?_, ?_, ?_, ?_, hgn⟩, ⟨?_, ?_, ?_, ?_, ?_⟩, ?_⟩
  · rw [hlen]; exact C4.out.set_ 0 _
  · rw [hlen]
    refine OwnS.far Q4.out (p := ⟨g, 0, none⟩) NE.out (fun s hs ad e => ?_) _
    obtain ⟨t, ht, rfl⟩ := List.mem_map.1 hs
    have h9 := hgn t ht ad e
    show ad.block ≠ g; omega
  · rw [List.map_append, List.map_append, HX.out]; rfl
  · intro t ht
    rcases List.mem_append.1 ht with ht | ht
    · exact H2.out t ht
    · rw [List.mem_singleton] at ht; subst ht; rfl
  · exact B4.out.os.trans E3.out.os
  · exact B4.out.tape.trans E3.out.tape
  · exact B4.out.output.trans E3.out.output
  · have := E3.out.size; have := Z4.out; rw [World.size_setCell]; omega
  · intro b hb h1 h2
    exact (Below.heap_setCell w4 _ _ b h1).trans ((K4.out b (by have := E3.out.size; omega) h2).trans (E3.out.block b hb))
  · rcases G4.out with h | h
    · exact .inl h.symm
    · refine .inr fun ad e => ?_
      injection e with e; subst e
      have := E3.out.size; show w.heap.size ≤ g'; omega
/-- the last word, the steps, whether there is no further one, a code -/
def Rn2Out (g B D : Nat) (O0 : Option Addr) (RV : Option (List Int × List (Nat × Nat) × Bool)) (w : World) (e' : Ending) (w' : World) : Prop :=
  match RV with
  | none => e' = .returned (.tuple #[.slice none 0 0, i64 0, .bool false, i64 5]) ∧ KeepE g O0 w w'
  | some (t, rows, q) => ∃ A n c O, e' = .returned (.tuple #[.slice A n c, i64 rows.length, .bool q, i64 0]) ∧ RdI w' A n t ∧ n ≤ c ∧ n ≤ 400 ∧ Noted g B D O rows w' ∧ KeepE g O0 w w'
/-- a list of rules above a block -/
structure RwN (w : World) (L : Nat) (P : Option Addr) (m : Nat) (ts : List RwT) : Prop where
  d : RwD w P m ts
  p : ∀ ad, P = some ad → L ≤ ad.block
  f : ∀ t ∈ ts, ∀ ad, t.fA = some ad → L ≤ ad.block
  t : ∀ t ∈ ts, ∀ ad, t.tA = some ad → L ≤ ad.block
theorem RwN.below {w w' : World} {L m : Nat} {P : Option Addr} {ts : List RwT} (h : RwN w L P m ts) (hb : Below w.heap.size w w') : RwN w' L P m ts := ⟨h.d.below hb, h.p, h.f, h.t⟩
theorem RwN.keepE {w w' : World} {L m g : Nat} {P O : Option Addr} {ts : List RwT} (h : RwN w L P m ts) (k : KeepE g O w w') (hg : g < L) (hO : ∀ o, O = some o → o.block < L) : RwN w' L P m ts :=
  ⟨⟨h.d.head.keepE k (fun ad e _ => by have := h.p ad e; omega) (fun ad o e e2 _ => by have := h.p ad e; have := hO o e2; omega),
    fun t ht => Rd.keepE (h.d.fr t ht) k (fun ad e _ => by have := h.f t ht ad e; omega) (fun ad o e e2 _ => by have := h.f t ht ad e; have := hO o e2; omega),
    fun t ht => Rd.keepE (h.d.tt t ht) k (fun ad e _ => by have := h.t t ht ad e; omega) (fun ad o e e2 _ => by have := h.t t ht ad e; have := hO o e2; omega)⟩, h.p, h.f, h.t⟩
set_option maxHeartbeats 8000000 in
set_option maxRecDepth 100000 in
theorem run2_c (s e : Int) (P : Option Addr) (m pc : Nat) (ts : List RwT) (X : List Rw) (WA : Option Addr) (n c : Nat) (ws : List Int) (most g B D L : Nat) (O0 : Option Addr) (RV : Option (List Int × List (Nat × Nat) × Bool)) (w : World) (hL : RwN w L P m ts) (hgL : g < L) (hOL : ∀ o, O0 = some o → o.block < L) (hN : Noted g B D O0 [] w) (hgD : g < D) (hDw : D ≤ w.heap.size) (hB : B ≤ w.heap.size) (hX : ts.map datR = X) (hg : ∀ r ∈ X, GoodR s e r) (h : RdI w WA n ws) (hw : ∃ j, OneS (stB s e) ws j) (hn : n ≤ 400) (hnc : n ≤ c) (hm : m ≤ 60) (hmost : most ≤ 1000) (hRV : runL (stB s e) X most ws [] = RV) :
    Calls Try.prog 67 #[.agg #[.int .i64 s, .int .i64 e], .slice P m pc, .slice WA n c, .int .i64 most, .func (.func 48) #[] #[.pointer (some ⟨g, 0, none⟩)]] w (Rn2Out g B D O0 RV w) := by
  obtain ⟨w0, hw0⟩ : ∃ w0, (w.alloc (.cells #[.int .i64 s, .int .i64 e] 99)) = w0 := ⟨_, rfl⟩
  have E0 := Lib.hid (show Below w.heap.size w w0 by rw [← hw0]; exact (below_size.alloc (Nat.le_refl _) _))
  have KA := Lib.hid (show Blk w0 w.heap.size 99 #[.int .i64 s, .int .i64 e] by rw [← hw0]; exact Blk.new _ _ _)
  have H := Lib.hid (RdI.below h E0.out); have HD := Lib.hid (hL.below E0.out); have HN := Lib.hid (hN.keep E0.out)
  have hgw : g < w.heap.size := hN.glt
  have HOW := Lib.hid hN.olt; have HOL := Lib.hid hOL
  have HX := Lib.hid hX; have HG := Lib.hid hg; have HRV := Lib.hid hRV; have HW := Lib.hid hw
  clear h hL hX hg hRV hw hN hOL
  go_enter Try.func67, Try.ntmps67
  go_wp2_with fail
  clear hw0
  go_loopw [2, 14] (fun xv iv wr => ∃ (k b : Nat) (A : Option Addr) (l c' : Nat) (us : List Int) (rows : List (Nat × Nat)) (O : Option Addr), k + b = most ∧ Hid (rows.length = k) ∧ iv = .int .i64 k ∧ xv = .slice A l c' ∧ l ≤ 400 ∧ l ≤ c' ∧ Hid (RdI wr A l us) ∧ Hid (∃ j, OneS (stB s e) us j) ∧ Hid (runL (stB s e) X b us rows = RV) ∧ Hid (Noted g B D O rows wr) ∧ Hid (KeepE g O0 w0 wr) ∧ Hid (O = O0 ∨ ∀ ad, O = some ad → w0.heap.size ≤ ad.block) ∧ w0.heap.size ≤ wr.heap.size) (fun _ iv _ => most - (intOf iv).toNat)
  case atStart => exact ⟨0, most, WA, n, c, ws, [], O0, by omega, rfl, rfl, rfl, hn, hnc, H.out, HW.out, HRV.out, HN.out, KeepE.refl, .inl rfl, Nat.le_refl _⟩
  case round =>
    clear H HN
    obtain ⟨k, b, A, l, c', us, rows, O, hkb, hrl, rfl, rfl, hl4, hlc, hR, hO, hV, hN, hK, hOO, hzr⟩ := hrel
    have hw0z : w.heap.size < w0.heap.size := KA.out.lt
    have hKA := Lib.hid (KA.out.keepE hK.out (by omega) (fun ad ea => by have := HOW.out ad ea; omega))
    have hD := Lib.hid (HD.out.keepE hK.out hgL HOL.out)
    have HKW := Lib.hid (KeepE.trans (KeepE.of_below E0.out) hK.out (.inl rfl))
    have k0 : wr.cell? ⟨w.heap.size, 0, none⟩ = some (.int .i64 s) := hKA.out.cell 0
    have k1 : wr.cell? ⟨w.heap.size, 1, none⟩ = some (.int .i64 e) := hKA.out.cell 1
    obtain ⟨MV, hMV⟩ : ∃ MV, moveR (stB s e) us X 0 = MV := ⟨_, rfl⟩
    have HV := Lib.hid (show runLK (stB s e) X b us rows MV = RV by rw [← hV.out, ← hMV, runL_eq])
    have HMV := Lib.hid hMV
    have HKB := Lib.hid hkb
    have hkm : k ≤ most := by omega
    have hwr : w.heap.size < wr.heap.size := hKA.out.lt
    clear hV hMV hkb
    go_wp2_with fail
    refine (onlyMove_c s e P m pc ts X A l c' us MV wr hD.out.d HX.out HG.out hR.out hO.out hl4 hlc hm HMV.out).mono ?_
    rintro e' w3 hmv
    clear k0 k1
    rcases MV with _ | ⟨k2, a, R⟩
    · obtain ⟨rfl, hb3⟩ := hmv
      have E3 := Lib.hid hb3
      have R3 := Lib.hid (RdI.below hR.out hb3)
      obtain ⟨wx, hwx⟩ : ∃ wx, w3.alloc (.cells #[.int .i64 0, .int .i64 0, .slice none 0 0] 75) = wx := ⟨_, rfl⟩
      have Ex3 := Lib.hid (show Below w3.heap.size w3 wx by rw [← hwx]; exact below_size.alloc (Nat.le_refl _) _)
      have KX := Lib.hid (show Blk wx w3.heap.size 75 #[.int .i64 0, .int .i64 0, .slice none 0 0] by rw [← hwx]; exact Blk.new _ _ _)
      have x0 : wx.cell? ⟨w3.heap.size, 0, none⟩ = some (.int .i64 0) := KX.out.cell 0
      have x1 : wx.cell? ⟨w3.heap.size, 1, none⟩ = some (.int .i64 0) := KX.out.cell 1
      have x2 : wx.cell? ⟨w3.heap.size, 2, none⟩ = some (.slice none 0 0) := KX.out.cell 2
      have f0 := KX.out.frozen 0; have f1 := KX.out.frozen 1; have f2 := KX.out.frozen 2
      obtain ⟨wy, hwy⟩ : ∃ wy, ((wx.setCell ⟨w3.heap.size, 0, none⟩ (.int .i64 0)).setCell ⟨w3.heap.size, 1, none⟩ (.int .i64 0)).setCell ⟨w3.heap.size, 2, none⟩ (.slice none 0 0) = wy := ⟨_, rfl⟩
      have Ey3 := Lib.hid (show Below w3.heap.size w3 wy by rw [← hwy]; exact ((Ex3.out.setCell (by simp) _).setCell (by simp) _).setCell (by simp) _)
      have Ey := Lib.hid (below_chain E3.out E3.out.size Ey3.out)
      clear hb3
      go_wp2_with fail
      refine bodyPost_ret (v := .tuple #[.slice A l c', .int .i64 k, .bool true, .int .i64 0]) (by simp [results, Try.results67, go_sem]) rfl ?_
      rw [← HV.out]
      exact ⟨A, l, c', O, by rw [hrl.out], RdI.below R3.out Ey3.out, hlc, hl4, hN.out.keep Ey.out, HKW.out.below Ey.out⟩
    · obtain ⟨A3, c3, rfl, hW3, hc3, hb3⟩ := hmv
      have HB3 := Lib.hid hb3
      have R3 := Lib.hid (RdI.below hR.out hb3)
      obtain ⟨rl, hrl3⟩ : ∃ rl, R.length = rl := ⟨_, rfl⟩
      have HRL := Lib.hid hrl3
      rw [hrl3] at hc3 hW3 ⊢
      have W3 := Lib.hid hW3
      obtain ⟨w4, hw4⟩ : ∃ w4, w3.alloc (.cells #[.int .i64 k2, .int .i64 a, .slice A3 rl c3] 75) = w4 := ⟨_, rfl⟩
      have E34 := Lib.hid (show Below w3.heap.size w3 w4 by rw [← hw4]; exact below_size.alloc (Nat.le_refl _) _)
      have E4 := Lib.hid (below_chain HB3.out HB3.out.size E34.out)
      have K4 := Lib.hid (show Blk w4 w3.heap.size 75 #[.int .i64 k2, .int .i64 a, .slice A3 rl c3] by rw [← hw4]; exact Blk.new _ _ _)
      have x0 : w4.cell? ⟨w3.heap.size, 0, none⟩ = some (.int .i64 k2) := K4.out.cell 0
      have x1 : w4.cell? ⟨w3.heap.size, 1, none⟩ = some (.int .i64 a) := K4.out.cell 1
      have x2 : w4.cell? ⟨w3.heap.size, 2, none⟩ = some (.slice A3 rl c3) := K4.out.cell 2
      clear hb3 hW3 hrl3
      by_cases hb0 : b = 0
      · have hk : k = most := by have := HKB.out; omega
        have HV2 := Lib.hid (show some (us, rows, false) = RV by rw [← HV.out, runLK, if_pos hb0])
        have g0 : ((k : Int) == (most : Int)) = true := by simp [hk]
        have HK := Lib.hid hk
        clear hk hb0
        go_wp2_with fail
        refine bodyPost_ret (v := .tuple #[.slice A l c', .int .i64 k, .bool false, .int .i64 0]) (by simp [results, Try.results67, go_sem]) rfl ?_
        rw [← HV2.out]
        exact ⟨A, l, c', O, by rw [hrl.out], RdI.below R3.out E34.out, hlc, hl4, hN.out.keep E4.out, HKW.out.below E4.out⟩
      · have g0 : ((k : Int) == (most : Int)) = false := by simp; have := HKB.out; omega
        by_cases h4 : rl ≤ 400
        · have g4 : decide ((400 : Int) < (rl : Int)) = false := by rw [decide_eq_false_iff_not]; omega
          have HV2 := Lib.hid (show runL (stB s e) X (b - 1) R (rows ++ [(k2, a)]) = RV by rw [← HV.out, runLK, if_neg hb0, if_pos (by rw [HRL.out]; exact h4)])
          obtain ⟨b', rfl⟩ : ∃ b', b = b' + 1 := ⟨b - 1, by omega⟩
          have HO3 := Lib.hid (show ∃ j, OneS (stB s e) R j by
            obtain ⟨r, _, hr, hp, hRR⟩ := moveR_some HMV.out
            have hgr := HG.out r (List.mem_of_getElem? hr)
            obtain ⟨j, hj⟩ := hO.out
            obtain ⟨i, hi⟩ := hgr.fr
            obtain ⟨i', hi'⟩ := hgr.to
            rw [hRR]; exact ⟨_, hj.put hi hi' hp⟩)
          have holt := hN.out.olt
          have HOLT := Lib.hid holt
          have HN4 := Lib.hid (hN.out.keep E4.out)
          have hz4 := E4.out.size
          have hz3 := HB3.out.size
          clear holt
          go_wp2_with fail
          refine (visitD_c k2 a A3 rl c3 g B D O rows w4 HN4.out hgD (by omega) (by omega) (by rw [hrl.out]; omega)).mono ?_
          rintro e' w5 ⟨rfl, O5, hN5, hK5, hO5⟩
          have HN5 := Lib.hid hN5; have HK5 := Lib.hid hK5; have HO5 := Lib.hid hO5
          have hz5 := hK5.size
          have hKX := K4.out.keepE hK5 (by omega) (fun ad ea => by have := HOLT.out ad ea; omega)
          have y2 : w5.cell? ⟨w3.heap.size, 2, none⟩ = some (.slice A3 rl c3) := hKX.cell 2
          have HR5 := Lib.hid (show RdI w5 A3 rl R from Rd.keepE (Rd.below W3.out.rd E34.out) hK5 (fun ad ea h0 => by
              obtain ⟨a', e1, h1, _⟩ := W3.out.2 h0
              rw [ea] at e1; injection e1 with e1; subst e1; omega) (fun ad o ea eo h0 => by
              obtain ⟨a', e1, h1, _⟩ := W3.out.2 h0
              rw [ea] at e1; injection e1 with e1; subst e1
              have := HOLT.out o eo; omega))
          have HKK5 := Lib.hid (KeepE.trans (hK.out.below E4.out) hK5 (by
              rcases hOO.out with h9 | h9
              · exact .inl h9
              · exact .inr fun ad ea => h9 ad ea))
          have HOO5 := Lib.hid (show O5 = O0 ∨ ∀ ad, O5 = some ad → w0.heap.size ≤ ad.block by
              rcases hO5 with h9 | h9
              · rw [h9]; exact hOO.out
              · exact .inr fun ad ea => by have := h9 ad ea; omega)
          clear hN5 hK5 hO5 hKX x0 x1 x2
          go_wp2_with fail
          go_roundw
          case rel => exact ⟨k + 1, b', A3, rl, c3, R, rows ++ [(k2, a)], O5, by have := HKB.out; omega, by unfold Hid; rw [List.length_append, hrl.out]; rfl, by go_num, rfl, h4, hc3, HR5.out, HO3.out, HV2.out, HN5.out, HKK5.out, HOO5.out, by omega⟩
          case measure => have := HKB.out; simp [intOf]; omega
        · have g4 : decide ((400 : Int) < (rl : Int)) = true := by rw [decide_eq_true_eq]; omega
          have HV2 := Lib.hid (show none = RV by rw [← HV.out, runLK, if_neg hb0, if_neg (by rw [HRL.out]; exact h4)])
          go_wp2_with fail
          refine bodyPost_ret (v := .tuple #[.slice none 0 0, .int .i64 0, .bool false, .int .i64 5]) (by simp [results, Try.results67, go_sem]) rfl ?_
          rw [← HV2.out]
          exact ⟨rfl, HKW.out.below E4.out⟩
end Go.Proofs.Ytcbcjhfeidkeaaa
