/-
  Reading functions: the program's reader (composition), and the reader as a whole.
-/
import Derived.Test.YtnoapoaajidncaaDoorC11n
import Derived.Test.YtnoapoaajidncaaDoorC11m
namespace Go.Proofs.YtnoapoaajidncaaDoor
open Go.RowKit
open FTr

def slLen : Value → Nat
  | .slice _ n _ => n
  | _ => 0
def segV (t : ItV) : Seg := ⟨t.A, t.n * 3, t.vs⟩
/-- an element more: its row s is new since the world w0; what lies below B may have changed -/
theorem OwnS.pushM {w0 w1 w' : World} {B g' cap size n c n' : Nat} {e : TypeId} {A : Option Addr} {vs vs' : List Value} {ss : List Seg} {s : Seg} (h : OwnS w0 B e size A n c vs ss) (hB : B ≤ w0.heap.size) (hk0 : ∀ b, B ≤ b → b < w0.heap.size → w1.heap[b]? = w0.heap[b]?) (hz1 : w0.heap.size ≤ w1.heap.size) (hs : Wr w1 w0.heap.size w1.heap.size s.A s.n s.vs)
    (hown : Own w' B e size (some ⟨g', 0, none⟩) n' cap vs') (hk : ∀ b, b < w1.heap.size → (∀ ad', A = some ad' → ad'.block ≠ b) → w'.heap[b]? = w1.heap[b]?) (hg : A = some ⟨g', 0, none⟩ ∨ g' = w1.heap.size) (hz : w1.heap.size ≤ w'.heap.size) :
    OwnS w' B e size (some ⟨g', 0, none⟩) n' cap vs' (ss ++ [s]) := by
  have h1 := h.move hk0 hz1
  have hold : ∀ t ∈ ss, ∀ a, t.A = some a → 0 < t.n → a.block < w0.heap.size := fun t ht a ha hn => by
    obtain ⟨a', e', _, _, h3, _⟩ := (h.wrs.each t ht).2 hn
    rw [ha] at e'; injection e' with e'; subst e'; exact h3
  have hnew : ∀ a, s.A = some a → 0 < s.n → w0.heap.size ≤ a.block ∧ a.block < w1.heap.size := fun a ha hn => by
    obtain ⟨a', e', h2, _, h3, _⟩ := hs.2 hn
    rw [ha] at e'; injection e' with e'; subst e'; exact ⟨h2, h3⟩
  refine ⟨hown, ⟨fun t ht => ?_, ?_⟩, fun t ht ad a had ha hn => ?_⟩
  · rcases List.mem_append.1 ht with ht | ht
    · exact (h1.wrs.each t ht).move (fun a hn ha => hk _ (Nat.lt_of_lt_of_le (hold t ht a ha hn) hz1) fun ad' hA => (h.ne t ht ad' a hA ha hn).symm) hz hz
    · rw [List.mem_singleton] at ht; subst ht
      exact (hs.wider hB (Nat.le_refl _)).move (fun a hn ha => hk _ (hnew a ha hn).2 fun ad' hA => by have := (h.own.block hA).2.1; have := (hnew a ha hn).1; omega) hz hz
  · refine List.pairwise_append.2 ⟨h.wrs.apart, List.pairwise_singleton _ _, fun t ht u hu a b ha hb' hn hm => ?_⟩
    rw [List.mem_singleton] at hu; subst hu
    have := hold t ht a ha hn; have := (hnew b hb' hm).1; omega
  · injection had with had; subst had
    rcases List.mem_append.1 ht with ht | ht
    · rcases hg with hg | hg
      · exact h.ne t ht _ a hg ha hn
      · have := hold t ht a ha hn; show a.block ≠ g'; omega
    · rw [List.mem_singleton] at ht; subst ht
      rcases hg with hg | hg
      · have := (h.own.block hg).2.1; have := (hnew a ha hn).1; show a.block ≠ g'; simp at *; omega
      · have := (hnew a ha hn).2; show a.block ≠ g'; omega
theorem Blk.ownK {w : World} {B g k n : Nat} {e : TypeId} {cs : Array Value} (h : Blk w g e cs) (hB : B ≤ g) (hl : cs.toList.length = n * k) (hn : n ≤ 1000000) : Own w B e k (some ⟨g, 0, none⟩) n n cs.toList :=
  ⟨hl, .inr ⟨g, n, cs, rfl, hB, h, Nat.le_refl _, by simp [maxLen]; omega, by rw [← Array.length_toList, hl], List.take_of_length_le (by rw [hl]; exact Nat.le_refl _)⟩⟩
/-- the parts that were read: a list of slices of the call's own -/
def PsS (B : Nat) (ps : List (List Nd3)) (A : Option Addr) (k c : Nat) (w : World) : Prop :=
  ∃ its : List ItV, OwnS w B 22 1 A k c (its.map hdV) (its.map segV) ∧ its.map ItV.vs = ps.map (·.flatMap enc3) ∧ its.map ItV.n = ps.map List.length
theorem PsS.move {B k c : Nat} {ps : List (List Nd3)} {A : Option Addr} {w w' : World} (h : PsS B ps A k c w) (hk : ∀ b, B ≤ b → b < w.heap.size → w'.heap[b]? = w.heap[b]?) (hs : w.heap.size ≤ w'.heap.size) : PsS B ps A k c w' := by
  obtain ⟨its, h1, h2, h3⟩ := h
  exact ⟨its, h1.move hk hs, h2, h3⟩
theorem PsS.keepR {B k c g : Nat} {ps : List (List Nd3)} {A : Option Addr} {w w' : World} (h : PsS B ps A k c w) (hk : KeepR g (g + 1) w w') (hg : g < B) : PsS B ps A k c w' :=
  h.move (fun b hb hlt => hk.block b hlt (.inr (by omega))) hk.size
theorem PsS.alloc {B k c : Nat} {ps : List (List Nd3)} {A : Option Addr} {w : World} (h : PsS B ps A k c w) (o : Obj) : PsS B ps A k c (w.alloc o) :=
  h.move (fun b _ hlt => (below_size.alloc (Nat.le_refl _) o).block b hlt) (by simp)
theorem PsS.len {B k c : Nat} {ps : List (List Nd3)} {A : Option Addr} {w : World} (h : PsS B ps A k c w) : ps.length = k := by
  obtain ⟨its, h1, h2, _⟩ := h
  have := congrArg List.length h2
  rw [List.length_map, List.length_map] at this
  have h4 := h1.own.1
  rw [List.length_map] at h4; omega
theorem PsS.one {B n c : Nat} {xs : List Nd3} {A : Option Addr} {w : World} (hs : Wr w B w.heap.size A (n * 3) (xs.flatMap enc3)) (hB : B ≤ w.heap.size) : PsS B [xs] (some ⟨w.heap.size, 0, none⟩) 1 1 (w.alloc (.cells #[.slice A n c] 22)) := by
  have hl : xs.length = n := Rd3.len hs.rd
  refine ⟨[⟨A, n, c, xs.flatMap enc3⟩], ⟨Own.fullK hB rfl rfl (by omega), ?_, ?_⟩, rfl, by simp [hl]⟩
  · exact WrS.one ((hs.below (below_size.alloc (Nat.le_refl _) _)).wider (Nat.le_refl _) (by simp))
  · intro s hs' ad a had ha hn
    rw [List.map_singleton, List.mem_singleton] at hs'; subst hs'
    injection had with had; subst had
    obtain ⟨a', e', _, _, h3, _⟩ := hs.2 hn
    have ha : A = some a := ha
    rw [ha] at e'; injection e' with e'; subst e'
    show a.block ≠ w.heap.size; omega
theorem PsS.push {B k c g' cap n c1 : Nat} {ps : List (List Nd3)} {xs : List Nd3} {A A1 : Option Addr} {w0 w1 w' : World} {its : List ItV} (h1 : OwnS w0 B 22 1 A k c (its.map hdV) (its.map segV)) (h2 : its.map ItV.vs = ps.map (·.flatMap enc3)) (h3 : its.map ItV.n = ps.map List.length) (hB : B ≤ w0.heap.size) (hk0 : ∀ b, B ≤ b → b < w0.heap.size → w1.heap[b]? = w0.heap[b]?) (hz1 : w0.heap.size ≤ w1.heap.size) (hs : Wr w1 w0.heap.size w1.heap.size A1 (n * 3) (xs.flatMap enc3))
    (hown : Own w' B 22 1 (some ⟨g', 0, none⟩) (k + 1) cap (its.map hdV ++ [.slice A1 n c1])) (hk : ∀ b, b < w1.heap.size → (∀ ad', A = some ad' → ad'.block ≠ b) → w'.heap[b]? = w1.heap[b]?) (hg : A = some ⟨g', 0, none⟩ ∨ g' = w1.heap.size) (hz : w1.heap.size ≤ w'.heap.size) :
    PsS B (ps ++ [xs]) (some ⟨g', 0, none⟩) (k + 1) cap w' := by
  have hl : xs.length = n := Rd3.len hs.rd
  refine ⟨its ++ [⟨A1, n, c1, xs.flatMap enc3⟩], ?_, by simp [h2], by simp [h3, hl]⟩
  rw [List.map_append, List.map_append, List.map_singleton, List.map_singleton]
  exact h1.pushM hB hk0 hz1 hs hown hk hg hz
theorem PsS.own {B k c : Nat} {ps : List (List Nd3)} {A : Option Addr} {w : World} (h : PsS B ps A k c w) : ∃ vs, Own w B 22 1 A k c vs := by
  obtain ⟨its, h1, _⟩ := h
  exact ⟨_, h1.own⟩
theorem sum_parts : ∀ {its : List ItV} {ps : List (List Nd3)}, its.map ItV.n = ps.map List.length → sumV its = ps.flatten.length
  | [], [], _ => rfl
  | [], _ :: _, h => by cases h
  | _ :: _, [], h => by cases h
  | t :: its, p :: ps, h => by
    rw [List.map_cons, List.map_cons] at h
    injection h with h1 h2
    rw [sumV, sum_parts h2, List.flatten_cons, List.length_append, h1]
theorem cat_parts {its : List ItV} {ps : List (List Nd3)} (h : its.map ItV.vs = ps.map (·.flatMap enc3)) : its.flatMap ItV.vs = ps.flatten.flatMap enc3 := by
  rw [List.flatMap_def, h]
  induction ps generalizing its with
  | nil => rfl
  | cons p ps ih => rw [List.map_cons, List.flatten_cons, List.flatten_cons, List.flatMap_append]; congr 1; exact ih (its := ps.map fun p => ⟨none, 0, 0, p.flatMap enc3⟩) (by rw [List.map_map]; rfl)
theorem IxLk.step {B n : Nat} {ps : List (List Nd3)} {s : List UInt8} {q : List Nd3 × RdSt} (h : IxLk B n (ps, (s, false))) (hc : tkB [44] s = true) (h2 : IxOk B (s.drop 1, false) q) : IxLk B n (ps ++ [q.1], q.2) := by
  have h1 := tkB_len hc
  simp only [List.length_cons, List.length_nil] at h1
  have h3 := h2.rest
  have h4 := h2.len
  have h5 := h.len
  simp only [List.length_drop] at h3 h4
  refine ⟨fun p hp => ?_, ?_, ?_, fun p hp => ?_⟩
  · rcases List.mem_append.1 hp with hp | hp
    · exact h.pos p hp
    · rw [List.mem_singleton] at hp; subst hp; exact h2.pos
  · simp only [List.flatten_append, List.length_append, List.flatten_cons, List.flatten_nil, List.append_nil] at h5 ⊢; omega
  · have h9 : 2 ≤ ps.length := h.two
    simp only [List.length_append, List.length_cons, List.length_nil]; omega
  · rcases List.mem_append.1 hp with hp | hp
    · exact h.hd p hp
    · rw [List.mem_singleton] at hp; subst hp; exact h2.hd
theorem IxLk.start {B : Nat} {s0 : Nat} {st st4 : RdSt} {p q : List Nd3 × RdSt} (h1 : IxOk B st p) (h2 : IxOk B st4 q) (h4 : st4.1.length ≤ p.2.1.length) (hs : st.1.length + 2 = s0) : IxLk B s0 ([p.1, q.1], q.2) := by
  have h3 := h1.rest; have h5 := h2.rest; have h6 := h1.len; have h7 := h2.len
  refine ⟨fun p hp => ?_, ?_, by simp, fun p hp => ?_⟩
  · simp only [List.mem_cons, List.not_mem_nil, or_false] at hp
    rcases hp with rfl | rfl
    · exact h1.pos
    · exact h2.pos
  · simp only [List.flatten_cons, List.flatten_nil, List.append_nil, List.length_append]; omega
  · simp only [List.mem_cons, List.not_mem_nil, or_false] at hp
    rcases hp with rfl | rfl
    · exact h1.hd
    · exact h2.hd
theorem IxLk.many {B n : Nat} {ps : List (List Nd3)} {st : RdSt} (h : IxLk B n (ps, st)) : ps.length + st.1.length ≤ n := by
  have h1 := flat_many h.pos
  have h2 := h.len
  simp only at h1 h2; omega
def fW (n : Nat) (vs : List Value) : MixA.Fact1 := fun _ v lo hi w => ∃ A c, v = .slice A n c ∧ Wr w lo hi A (n * 3) vs
theorem fW_st (n : Nat) (vs : List Value) : MixA.Stab (fW n vs) := fun _ _ _ _ _ _ hb h => by obtain ⟨A, c, e, hw⟩ := h; exact ⟨A, c, e, hw.below hb⟩
theorem sizeParts_c (A : Option Addr) (n c : Nat) (w : World) (_hn : n ≤ 1000000000000) :
    Calls Tryd.prog 36 #[.slice A n c] w fun e w' => e = .returned (.int .i64 n) ∧ w = w' := by
  go_enter Tryd.func36, Tryd.ntmps36
  go_wp2
  go_ret
  exact ⟨rfl, rfl⟩
set_option maxHeartbeats 4000000 in
set_option maxRecDepth 100000 in
theorem composition1_c (g L N : Nat) (hN3 : N ≤ 3000) (IH : RdrK g L N) : CmpK g L N := by
  rintro st0 w h hN
  have S0 := Lib.hid h
  have HIH := Lib.hid IH
  have hgL := h.glt; have hLw := h.llt
  have hs20 : st0.1.length ≤ 2000 := h.len
  obtain ⟨⟨xs, st3⟩, hx⟩ : ∃ r, ixF N st0 = r := ⟨_, rfl⟩
  obtain ⟨st4, h4⟩ : ∃ r, ndF [59] st3 = r := ⟨_, rfl⟩
  obtain ⟨⟨ys, st5⟩, hy⟩ : ∃ r, ixF N st4 = r := ⟨_, rfl⟩
  have kx := ixF_ok N st0; have ky := ixF_ok N st4
  rw [hx] at kx; rw [hy] at ky
  have hl3 := kx.rest; have hl4 := ndF_len [59] st3; have hl5 := ky.rest
  rw [h4] at hl4
  simp only at hl3 hl5
  have HLK := Lib.hid (show IxLk (9 + N) (st0.1.length + 2) ([xs, ys], st5) from IxLk.start kx ky (by simp only; omega) rfl)
  obtain ⟨⟨PS, stE⟩, hE⟩ : ∃ r, ixP (ixF N) st0 = r := ⟨_, rfl⟩
  have HE := Lib.hid (show ixL (ixF N) (st5.1.length + 1) [xs, ys] st5 = (PS, stE) by rw [← hE, ixP, hx]; simp only [h4, hy])
  have HG := Lib.hid (show ixC0 (ixF N) st0 = ((3, hdA (PS.getD 1 []), (PS.length : Int) - 1) :: PS.flatten, ndF [41] stE) by rw [ixC0, hE])
  rw [HG.out]
  have HX := Lib.hid hx; have H4 := Lib.hid h4; have HY := Lib.hid hy
  clear h IH hx h4 hy hE HG kx ky
  go_enter Tryd.func24, Tryd.ntmps24
  go_wp2_with fail
  refine (HIH.out st0 w S0.out hN).mono ?_
  rw [HX.out]
  rintro e w1 ⟨A1, n1, c1, rfl, hw1, hc1, hs1, hk1⟩
  have z1 := hk1.size
  obtain ⟨w2, hw2⟩ : ∃ w2, w1.alloc (.cells #[.slice A1 n1 c1] 22) = w2 := ⟨_, rfl⟩
  have E2 := Lib.hid (show Below w1.heap.size w1 w2 by rw [← hw2]; exact below_size.alloc (Nat.le_refl _) _)
  have P2 := Lib.hid (show PsS w.heap.size [xs] (some ⟨w1.heap.size, 0, none⟩) 1 1 w2 by rw [← hw2]; exact PsS.one hw1 z1)
  have S2 := Lib.hid (show FrS g L st3 w2 from hs1.belowB E2.out (by omega)); have K2 := Lib.hid (hk1.thenF E2.out z1)
  have z2 := E2.out.size
  clear hw1 hs1 hk1
  go_wp2_with fail
  refine (needF_c g L st3 [59] _ (by rfl) w2 S2.out).mono ?_
  rw [H4.out]
  rintro e w3 ⟨rfl, hs3, hk3⟩
  have S3 := Lib.hid hs3; have K3 := Lib.hid (K2.out.trans hk3); have z3 := hk3.size
  have P3 := Lib.hid (P2.out.keepR hk3 (by omega))
  clear hs3 hk3
  go_wp2_with fail
  refine (HIH.out st4 w3 S3.out (by omega)).mono ?_
  rw [HY.out]
  rintro e w4 ⟨A4, n4, c4, rfl, hw4, hc4, hs4, hk4⟩
  have z4 := hk4.size
  obtain ⟨w5, hw5⟩ : ∃ w5, w4.alloc (.cells #[.slice A4 n4 c4] 22) = w5 := ⟨_, rfl⟩
  have E5 := Lib.hid (show Below w4.heap.size w4 w5 by rw [← hw5]; exact below_size.alloc (Nat.le_refl _) _)
  have c5 : w5.cell? ⟨w4.heap.size, 0, none⟩ = some (.slice A4 n4 c4) := by rw [← hw5]; exact new_cell _ _ _ 0
  obtain ⟨its, hSS, hVV, hNN⟩ := P3.out
  have OS := Lib.hid hSS; have HV := Lib.hid hVV; have HNN := Lib.hid hNN
  have z5 := E5.out.size
  have O5 := Lib.hid (show Own w5 w.heap.size 22 1 (some ⟨w1.heap.size, 0, none⟩) 1 1 (its.map hdV) from ((hSS.move (w' := w4) (fun b hb hlt => hk4.block b hlt (.inr (by omega))) hk4.size).keep E5.out).own)
  have W5 := Lib.hid (show Wr w5 w3.heap.size w5.heap.size A4 (n4 * 3) (ys.flatMap enc3) from (hw4.below E5.out).wider (Nat.le_refl _) E5.out.size)
  have S5 := Lib.hid (show FrS g L st5 w5 from hs4.belowB E5.out (by omega)); have K5 := Lib.hid ((K3.out.trans hk4).thenF E5.out (by omega))
  have M5 := Lib.hid (show ∀ b, w.heap.size ≤ b → b < w3.heap.size → w5.heap[b]? = w3.heap[b]? from fun b hb hlt => (E5.out.block b (by omega)).trans (hk4.block b hlt (.inr (by omega))))
  clear hSS hVV hNN hw4 hs4 hk4
  go_wp2_with (at_builtin; refine wp_app1 (by rfl) _ _ 56 22 (.slice none 0 0) 24 (by rfl) Tryd.underlying56 info_sFunc rfl w.heap.size (some ⟨w1.heap.size, 0, none⟩) 1 1 (its.map hdV) (by rfl) (by exact O5.out) w4.heap.size (.slice A4 n4 c4) (by rfl) (by exact c5) rfl (by omega) (by omega) (by omega) ?_; intro g' cap w6 own6 hb6 hk6 hg6 hz6; have P6 := Lib.hid (PsS.push OS.out HV.out HNN.out (by omega) M5.out (by omega) W5.out own6 hk6 hg6 hz6); have S6 := Lib.hid (S5.out.belowB hb6 (by omega)); have K6 := Lib.hid (K5.out.thenF hb6 (Nat.le_refl _)); have z6 := hz6; clear own6 hb6 hk6 hg6 hz6)
  clear S5 K5 M5 W5 O5 OS HV HNN E5 hw5 c5 P3 S3 K3 P2 S2 K2 hw2 S0
  go_loopw [3] (fun v wr => ∃ (ps : List (List Nd3)) (st : RdSt) (F : Nat) (A : Option Addr) (k cc : Nat), v = .slice A k cc ∧ Hid (ixL (ixF N) F ps st = (PS, stE)) ∧ st.1.length < F ∧ st.1.length < N ∧ Hid (IxLk (9 + N) (st0.1.length + 2) (ps, st)) ∧ k + st.1.length ≤ 2002 ∧ Hid (PsS w.heap.size ps A k cc wr) ∧ Hid (FrS g L st wr) ∧ Hid (KeepR g (g + 1) w wr)) (fun v _ => 3000 - slLen v)
  case atStart => exact ⟨[xs, ys], st5, st5.1.length + 1, _, 2, cap, rfl, HE.out, by omega, by omega, HLK.out, by have := HLK.out.many; simp at this; omega, P6.out, S6.out, K6.out⟩
  case round =>
    clear HE HLK P6 S6 K6 HX H4 HY
    obtain ⟨ps, ⟨s, b⟩, F, A, k, cc, rfl, hE, hF, hsN, hLK, hk, hP, hS, hK⟩ := hrel
    have zr := hK.out.size
    simp only at hF hsN hk
    have q1 : wr.cell? ⟨g, 1, none⟩ = some (.bool b) := hS.out.blk.cell 1
    by_cases hc : b = false ∧ tkB [44] s = true
    · obtain ⟨rfl, hc⟩ := hc
      obtain ⟨F, rfl⟩ : ∃ F', F = F' + 1 := ⟨F - 1, by omega⟩
      have htl := tkB_len hc
      simp only [List.length_cons, List.length_nil] at htl
      obtain ⟨s2, hs2⟩ : ∃ s2, s.drop 1 = s2 := ⟨_, rfl⟩
      have hl2 : s2.length + 1 = s.length := by rw [← hs2, List.length_drop]; omega
      have kx := ixF_ok N (s2, false)
      have hLK2 := hLK.out.step hc (q := ixF N (s2, false)) (by rw [hs2]; exact kx)
      obtain ⟨⟨zs, st7⟩, hx⟩ : ∃ r, ixF N (s2, false) = r := ⟨_, rfl⟩
      rw [hx] at kx hLK2
      have hl7 := kx.rest; have hm7 := hLK2.many
      simp only at hl7 hm7
      have hpk : ps.length = k := hP.out.len
      rw [List.length_append, List.length_singleton, hpk] at hm7
      have HLK2 := Lib.hid hLK2
      have HE2 := Lib.hid (show ixL (ixF N) F (ps ++ [zs]) st7 = (PS, stE) by rw [← hE.out, ixL, if_pos ⟨rfl, hc⟩]; simp only [hs2, hx])
      have HX := Lib.hid hx; have HC := Lib.hid hc; have HS2 := Lib.hid hs2
      clear hx hc hs2 kx hLK2 hE hLK hpk
      go_wp2_with fail
      refine (takeYes_c g L s false [44] s2 _ (by rfl) wr hS.out HC.out HS2.out).mono ?_
      rintro e w1' ⟨rfl, hs1', hk1'⟩
      have S1 := Lib.hid hs1'; have K1 := Lib.hid (hK.out.trans hk1'); have zz1 := hk1'.size
      have P1 := Lib.hid (hP.out.keepR hk1' (by omega))
      clear hs1' hk1'
      go_wp2_with fail
      refine (HIH.out (s2, false) w1' S1.out (by simp only; omega)).mono ?_
      rw [HX.out]
      rintro e w4 ⟨A4, n4, c4, rfl, hw4, hc4, hs4, hk4⟩
      have z4 := hk4.size
      obtain ⟨w5, hw5⟩ : ∃ w5, w4.alloc (.cells #[.slice A4 n4 c4] 22) = w5 := ⟨_, rfl⟩
      have E5 := Lib.hid (show Below w4.heap.size w4 w5 by rw [← hw5]; exact below_size.alloc (Nat.le_refl _) _)
      have c5 : w5.cell? ⟨w4.heap.size, 0, none⟩ = some (.slice A4 n4 c4) := by rw [← hw5]; exact new_cell _ _ _ 0
      obtain ⟨its, hSS, hVV, hNN⟩ := P1.out
      have OS := Lib.hid hSS; have HV := Lib.hid hVV; have HNN := Lib.hid hNN
      have z5 := E5.out.size
      have O5 := Lib.hid (show Own w5 w.heap.size 22 1 A k cc (its.map hdV) from ((hSS.move (w' := w4) (fun b hb hlt => hk4.block b hlt (.inr (by omega))) hk4.size).keep E5.out).own)
      have W5 := Lib.hid (show Wr w5 w1'.heap.size w5.heap.size A4 (n4 * 3) (zs.flatMap enc3) from (hw4.below E5.out).wider (Nat.le_refl _) E5.out.size)
      have S5 := Lib.hid (show FrS g L st7 w5 from hs4.belowB E5.out (by omega)); have K5 := Lib.hid ((K1.out.trans hk4).thenF E5.out (by omega))
      have M5 := Lib.hid (show ∀ b, w.heap.size ≤ b → b < w1'.heap.size → w5.heap[b]? = w1'.heap[b]? from fun b hb hlt => (E5.out.block b (by omega)).trans (hk4.block b hlt (.inr (by omega))))
      clear hSS hVV hNN hw4 hs4 hk4
      go_wp2_with (at_builtin; refine wp_app1 (by rfl) _ _ 56 22 (.slice none 0 0) 24 (by rfl) Tryd.underlying56 info_sFunc rfl w.heap.size A k cc (its.map hdV) (by rfl) (by exact O5.out) w4.heap.size (.slice A4 n4 c4) (by rfl) (by exact c5) rfl (by omega) (by omega) (by omega) ?_; intro g' cap w6 own6 hb6 hk6 hg6 hz6; have P6 := Lib.hid (PsS.push OS.out HV.out HNN.out (by omega) M5.out (by omega) W5.out own6 hk6 hg6 hz6); have S6 := Lib.hid (S5.out.belowB hb6 (by omega)); have K6 := Lib.hid (K5.out.thenF hb6 (Nat.le_refl _)); have z6 := hz6; clear own6 hb6 hk6 hg6 hz6)
      go_roundw
      case rel => exact ⟨ps ++ [zs], st7, F, some ⟨g', 0, none⟩, k + 1, cap, rfl, HE2.out, by omega, by omega, HLK2.out, by omega, P6.out, S6.out, K6.out⟩
      case measure => simp [slLen]; omega
    · obtain ⟨F, rfl⟩ : ∃ F', F = F' + 1 := ⟨F - 1, by omega⟩
      have e := hE.out
      rw [ixL, if_neg (by simpa using hc)] at e
      injection e with e1 e2
      subst e1; subst e2
      have hpk : ps.length = k := hP.out.len
      have hk2 : 2 ≤ k := by have := hLK.out.two; simp only at this; omega
      have hfl := hLK.out.len
      simp only at hfl
      obtain ⟨its, hOS, hV, hNN⟩ := hP.out
      have hil : its.length = k := by have := congrArg List.length hV; rw [List.length_map, List.length_map] at this; omega
      obtain ⟨t1, ht1⟩ : ∃ t, its[1]? = some t := ⟨_, List.getElem?_eq_getElem (by omega)⟩
      obtain ⟨x1, hx1⟩ : ∃ t, ps[1]? = some t := ⟨_, List.getElem?_eq_getElem (by omega)⟩
      have hv1 : t1.vs = x1.flatMap enc3 := by have := congrArg (·[1]?) hV; simpa [ht1, hx1] using this
      have hn1 : t1.n = x1.length := by have := congrArg (·[1]?) hNN; simpa [ht1, hx1] using this
      have hxm : x1 ∈ ps := List.mem_of_getElem? hx1
      have hxp := List.length_pos_iff.2 (hLK.out.pos x1 hxm)
      have hW1 := hOS.wrs.each (segV t1) (List.mem_map.2 ⟨t1, List.mem_of_getElem? ht1, rfl⟩)
      obtain ⟨A1', n1', c1', v1'⟩ := t1
      simp only at hv1 hn1
      have hR1 : Rd3 wr A1' n1' x1 := by have := hW1.rd; simp only [segV, hv1] at this; exact this
      obtain ⟨ad1, rfl, _⟩ := hR1.2 (by omega)
      obtain ⟨a, ha⟩ : ∃ a, hdA (ps.getD 1 []) = a := ⟨_, rfl⟩
      have hx1a : hdA x1 = a := by rw [← ha, List.getD_eq_getElem?_getD, hx1]; rfl
      have hca : wr.cell? ⟨ad1.block, ad1.off + 1, none⟩ = some (i64 a) := by rw [← hx1a]; exact hd_cell hR1 (by omega)
      obtain ⟨adp, vp, rfl, _, _, _, hvp, hcp, _⟩ := hOS.own.wr.at_ (k := 1) (by omega)
      obtain ⟨gp, rfl⟩ : ∃ gp, adp = ⟨gp, 0, none⟩ := ⟨_, (hOS.own.block rfl).2.2.1⟩
      rw [head_add] at hcp
      rw [List.getElem?_map, ht1] at hvp
      injection hvp with hvp
      rw [← hvp] at hcp
      have hcp : wr.cell? ⟨gp, 1, none⟩ = some (.slice (some ad1) n1' c1') := hcp
      obtain ⟨NN, hN'⟩ : ∃ NN, ps.flatten.length = NN := ⟨_, rfl⟩
      have HSUM := Lib.hid (show sumV its = NN by rw [sum_parts hNN, hN'])
      have HCAT := Lib.hid (cat_parts hV)
      have hNN1 : 1 ≤ NN := by have := flat_many hLK.out.pos; simp only at this; omega
      have hNN2 : NN ≤ 2002 := by omega
      have HA := Lib.hid (show ((3, hdA (ps.getD 1 []), (ps.length : Int) - 1) :: ps.flatten : List Nd3) = (3, a, (k : Int) - 1) :: ps.flatten by rw [ha, hpk])
      have HRVr := Lib.hid (show RdV wr 3 (some ⟨gp, 0, none⟩) k its from ⟨hOS.own.wr.rd, fun t ht => (hOS.wrs.each (segV t) (List.mem_map.2 ⟨t, ht, rfl⟩)).rd, fun t ht u hu => by
        obtain ⟨j, hj, rfl⟩ := List.mem_iff_getElem.1 ht
        have := congrArg (·[j]?) hV
        simp only [List.getElem?_map, List.getElem?_eq_getElem hj, Option.map_some] at this
        cases hp : ps[j]? with
        | none => rw [hp] at this; cases this
        | some p => rw [hp] at this; injection this with this; rw [this] at hu; exact one_tri p u hu⟩)
      have hwp := (hOS.own.block rfl).2.1
      have hgp := (hOS.own.block rfl).1
      have hadb : w.heap.size ≤ ad1.block ∧ ad1.block < wr.heap.size := by
        obtain ⟨_, e, h1, _, h3, _⟩ := hW1.2 (by simp only [segV]; omega)
        injection e with e; subst e; exact ⟨h1, h3⟩
      have HOSr := Lib.hid hOS
      have hn1p : 1 ≤ n1' := by omega
      have va : IntKind.i64.wrap ((k : Int) - 1) = (k : Int) - 1 := IntWalk.i64_in _ (by omega)
      clear hE hP hOS hV hNN hil ht1 hx1 hv1 hn1 hxm hxp hW1 hR1 ha hx1a hvp hN' hpk hfl hLK
      have HRV2 := Lib.hid (show ∀ w3, KeepR g (g + 1) wr w3 → RdV w3 3 (some ⟨gp, 0, none⟩) k its from fun w3 hk3 => by
        have hm := HOSr.out.move (w' := w3) (fun b hb hlt => hk3.block b hlt (.inr (by omega))) hk3.size
        exact ⟨hm.own.wr.rd, fun t ht => (hm.wrs.each (segV t) (List.mem_map.2 ⟨t, ht, rfl⟩)).rd, HRVr.out.one⟩)
      have HCN := Lib.hid hc
      clear hc
      by_cases hbfalse : b = false
      · subst hbfalse
        have HQ := Lib.hid (show tkB [44] s = false by have := HCN.out; simpa using this)
        go_wp2_with fail
        refine (takeNo_c g L (s, false) [44] _ (by rfl) wr hS.out HQ.out).mono ?_
        rintro e w' ⟨rfl, rfl⟩
        go_wp2_with fail
        refine (needF_c g L (s, false) [41] _ (by rfl) wr hS.out).mono ?_
        rintro e w3 ⟨rfl, hs3, hk3⟩
        have S3 := Lib.hid hs3; have K3 := Lib.hid (hK.out.trans hk3); have z3 := hk3.size
        have HRV := Lib.hid (HRV2.out w3 hk3)
        have HC1 := Lib.hid (show w3.cell? ⟨gp, 1, none⟩ = some (.slice (some ad1) n1' c1') from hk3.cell (.inr (by show g + 1 ≤ gp; omega)) hcp)
        have HCA := Lib.hid (show w3.cell? ⟨ad1.block, ad1.off + 1, none⟩ = some (i64 a) from hk3.cell (.inr (by show g + 1 ≤ ad1.block; omega)) hca)
        have EW : ∀ w1 : World, Below w3.drew.heap.size w3.drew w1 → Below w3.heap.size w3 w1 := fun w1 hb => below_of_drew hb
        clear hs3 hk3 q1 HRV2 HRVr HOSr hcp hca
        go_wp2_with fail
        -- region A
        refine MixA.wp_facts 11 [31, 32, 33, 34, 35, 36, 37, 38, 39, 40, 4] [[], [0], [1], [2], [3], [4], [], [6], [7], [5, 8], []]
          [MixA.fP (.slice (some ⟨gp, 0, none⟩) k cc),
           MixA.fP (.pointer (some ⟨gp, 1, none⟩)),
           MixA.fP (.slice (some ad1) n1' c1'),
           MixA.fP (.pointer (some ad1)),
           MixA.fP (.pointer (some ⟨ad1.block, ad1.off + 1, none⟩)),
           MixA.fP (.int .i64 a),
           MixA.fP (.slice (some ⟨gp, 0, none⟩) k cc),
           MixA.fP (.int .i64 k),
           MixA.fP (.int .i64 ((k : Int) - 1)),
           MixA.fP (.agg #[.int .i64 3, .int .i64 a, .int .i64 ((k : Int) - 1)]),
           MixA.fB 37 #[i64 0, i64 0, i64 0]]
          (by kernel_rfl) (by kernel_rfl) (fun t ht => Nat.lt_of_lt_of_eq (show t < 46 by revert t; decide) rfl) ?_ ?_
        · intro f hf
          simp only [List.mem_cons, List.not_mem_nil, or_false] at hf
          rcases hf with rfl | rfl | rfl | rfl | rfl | rfl | rfl | rfl | rfl | rfl | rfl
          · exact MixA.fP_st _
          · exact MixA.fP_st _
          · exact MixA.fP_st _
          · exact MixA.fP_st _
          · exact MixA.fP_st _
          · exact MixA.fP_st _
          · exact MixA.fP_st _
          · exact MixA.fP_st _
          · exact MixA.fP_st _
          · exact MixA.fP_st _
          · exact MixA.fB_st _ _
        simp only [MixA.EachF]
        refine ⟨?_, ?_, ?_, ?_, ?_, ?_, ?_, ?_, ?_, ?_, ?_, ?_⟩
        · intro a1 w1 hf
          refine MixA.hop ⟨#[undef, undef, undef, (.slice (some ⟨gp, 0, none⟩) k cc), undef, undef, undef, undef, undef, undef, undef, undef, undef, undef, undef, undef, undef, undef, undef, undef, undef, undef, undef, undef, undef, undef, undef, undef, undef, undef, undef, undef], []⟩ (by intro cs b e; cases e) rfl (show 31 < 32 by decide) ?_ ?_
          · intro x hx
            simp [Op.operands] at hx
            rcases hx with rfl
            · exact (hf.was (t := 3) (by decide) rfl).trans rfl
          go_wp2_with fail
          first | exact ⟨below_size, rfl⟩ | exact ⟨_, rfl, below_size, rfl⟩
        · intro a1 w1 hf
          refine MixA.hop ⟨#[undef, undef, undef, undef, undef, undef, undef, undef, undef, undef, undef, undef, undef, undef, undef, undef, undef, undef, undef, undef, undef, undef, undef, undef, undef, undef, undef, undef, undef, undef, undef, (.slice (some ⟨gp, 0, none⟩) k cc), undef], []⟩ (by intro cs b e; cases e) rfl (show 32 < 33 by decide) ?_ ?_
          · intro x hx
            simp [Op.operands] at hx
            rcases hx with rfl | rfl
            · exact (hf.pure (j := 0) (by decide) rfl).trans rfl
            · rfl
          go_wp2_with fail
          first | exact ⟨below_size, rfl⟩ | exact ⟨_, rfl, below_size, rfl⟩
        · intro a1 w1 hf
          have E1 := EW w1 hf.below
          have hc0 : w1.cell? ⟨gp, 1, none⟩ = some (.slice (some ad1) n1' c1') := keepc E1 HC1.out
          clear E1
          refine MixA.hop ⟨#[undef, undef, undef, undef, undef, undef, undef, undef, undef, undef, undef, undef, undef, undef, undef, undef, undef, undef, undef, undef, undef, undef, undef, undef, undef, undef, undef, undef, undef, undef, undef, undef, (.pointer (some ⟨gp, 1, none⟩)), undef], []⟩ (by intro cs b e; cases e) rfl (show 33 < 34 by decide) ?_ ?_
          · intro x hx
            simp [Op.operands] at hx
            rcases hx with rfl
            · exact (hf.pure (j := 1) (by decide) rfl).trans rfl
          go_wp2_with fail
          first | exact ⟨below_size, rfl⟩ | exact ⟨_, rfl, below_size, rfl⟩
        · intro a1 w1 hf
          obtain ⟨R, hR, _⟩ := hf.facts
          have hv33 : MixA.val a1 33 = .slice (some ad1) n1' c1' := (hR 2 (by decide)).1
          clear hR
          refine MixA.hop ⟨#[undef, undef, undef, undef, undef, undef, undef, undef, undef, undef, undef, undef, undef, undef, undef, undef, undef, undef, undef, undef, undef, undef, undef, undef, undef, undef, undef, undef, undef, undef, undef, undef, undef, (.slice (some ad1) n1' c1'), undef], []⟩ (by intro cs b e; cases e) rfl (show 34 < 35 by decide) ?_ ?_
          · intro x hx
            simp [Op.operands] at hx
            rcases hx with rfl | rfl
            · exact hv33.trans rfl
            · rfl
          go_wp2_with fail
          first | exact ⟨below_size, rfl⟩ | exact ⟨_, rfl, below_size, rfl⟩
        · intro a1 w1 hf
          obtain ⟨R, hR, _⟩ := hf.facts
          have hv34 : MixA.val a1 34 = .pointer (some ad1) := (hR 3 (by decide)).1
          clear hR
          refine MixA.hop ⟨#[undef, undef, undef, undef, undef, undef, undef, undef, undef, undef, undef, undef, undef, undef, undef, undef, undef, undef, undef, undef, undef, undef, undef, undef, undef, undef, undef, undef, undef, undef, undef, undef, undef, undef, (.pointer (some ad1)), undef], []⟩ (by intro cs b e; cases e) rfl (show 35 < 36 by decide) ?_ ?_
          · intro x hx
            simp [Op.operands] at hx
            rcases hx with rfl
            · exact hv34.trans rfl
          go_wp2_with fail
          first | exact ⟨below_size, rfl⟩ | exact ⟨_, rfl, below_size, rfl⟩
        · intro a1 w1 hf
          obtain ⟨R, hR, _⟩ := hf.facts
          have hv35 : MixA.val a1 35 = .pointer (some ⟨ad1.block, ad1.off + 1, none⟩) := (hR 4 (by decide)).1
          have E1 := EW w1 hf.below
          have hc0 : w1.cell? ⟨ad1.block, ad1.off + 1, none⟩ = some (i64 a) := keepc E1 HCA.out
          clear hR E1
          refine MixA.hop ⟨#[undef, undef, undef, undef, undef, undef, undef, undef, undef, undef, undef, undef, undef, undef, undef, undef, undef, undef, undef, undef, undef, undef, undef, undef, undef, undef, undef, undef, undef, undef, undef, undef, undef, undef, undef, (.pointer (some ⟨ad1.block, ad1.off + 1, none⟩)), undef], []⟩ (by intro cs b e; cases e) rfl (show 36 < 37 by decide) ?_ ?_
          · intro x hx
            simp [Op.operands] at hx
            rcases hx with rfl
            · exact hv35.trans rfl
          go_wp2_with fail
          first | exact ⟨below_size, rfl⟩ | exact ⟨_, rfl, below_size, rfl⟩
        · intro a1 w1 hf
          refine MixA.hop ⟨#[undef, undef, undef, (.slice (some ⟨gp, 0, none⟩) k cc), undef, undef, undef, undef, undef, undef, undef, undef, undef, undef, undef, undef, undef, undef, undef, undef, undef, undef, undef, undef, undef, undef, undef, undef, undef, undef, undef, undef, undef, undef, undef, undef, undef, undef], []⟩ (by intro cs b e; cases e) rfl (show 37 < 38 by decide) ?_ ?_
          · intro x hx
            simp [Op.operands] at hx
            rcases hx with rfl
            · exact (hf.was (t := 3) (by decide) rfl).trans rfl
          go_wp2_with fail
          first | exact ⟨below_size, rfl⟩ | exact ⟨_, rfl, below_size, rfl⟩
        · intro a1 w1 hf
          refine MixA.hop ⟨#[undef, undef, undef, undef, undef, undef, undef, undef, undef, undef, undef, undef, undef, undef, undef, undef, undef, undef, undef, undef, undef, undef, undef, undef, undef, undef, undef, undef, undef, undef, undef, undef, undef, undef, undef, undef, undef, (.slice (some ⟨gp, 0, none⟩) k cc), undef], []⟩ (by intro cs b e; cases e) rfl (show 38 < 39 by decide) ?_ ?_
          · intro x hx
            simp [Op.operands, Call.operands] at hx
            rcases hx with rfl | rfl
            · rfl
            · exact (hf.pure (j := 6) (by decide) rfl).trans rfl
          go_wp2_with fail
          refine (sizeParts_c _ _ _ _ (by omega)).mono ?_
          rintro e w2 ⟨rfl, rfl⟩
          go_wp2_with fail
          first | exact ⟨below_size, rfl⟩ | exact ⟨_, rfl, below_size, rfl⟩
        · intro a1 w1 hf
          obtain ⟨R, hR, _⟩ := hf.facts
          have hv38 : MixA.val a1 38 = .int .i64 k := (hR 7 (by decide)).1
          clear hR
          refine MixA.hop ⟨#[undef, undef, undef, undef, undef, undef, undef, undef, undef, undef, undef, undef, undef, undef, undef, undef, undef, undef, undef, undef, undef, undef, undef, undef, undef, undef, undef, undef, undef, undef, undef, undef, undef, undef, undef, undef, undef, undef, (.int .i64 k), undef], []⟩ (by intro cs b e; cases e) rfl (show 39 < 40 by decide) ?_ ?_
          · intro x hx
            simp [Op.operands] at hx
            rcases hx with rfl | rfl
            · exact hv38.trans rfl
            · rfl
          go_wp2_with fail
          first | exact ⟨below_size, rfl⟩ | exact ⟨_, rfl, below_size, rfl⟩
        · intro a1 w1 hf
          obtain ⟨R, hR, _⟩ := hf.facts
          have hv36 : MixA.val a1 36 = .int .i64 a := (hR 5 (by decide)).1
          have hv39 : MixA.val a1 39 = .int .i64 ((k : Int) - 1) := (hR 8 (by decide)).1
          clear hR
          refine MixA.hop ⟨#[undef, undef, undef, undef, undef, undef, undef, undef, undef, undef, undef, undef, undef, undef, undef, undef, undef, undef, undef, undef, undef, undef, undef, undef, undef, undef, undef, undef, undef, undef, undef, undef, undef, undef, undef, undef, (.int .i64 a), undef, undef, (.int .i64 ((k : Int) - 1)), undef], []⟩ (by intro cs b e; cases e) rfl (show 40 < 41 by decide) ?_ ?_
          · intro x hx
            simp [Op.operands] at hx
            rcases hx with rfl | rfl | rfl
            · rfl
            · exact hv36.trans rfl
            · exact hv39.trans rfl
          go_wp2_with fail
          first | exact ⟨below_size, rfl⟩ | exact ⟨_, rfl, below_size, rfl⟩
        · intro a1 w1 hf
          refine MixA.hop ⟨#[undef, undef, undef, undef, undef], []⟩ (by intro cs b e; cases e) rfl (show 4 < 5 by decide) ?_ ?_
          · intro x hx
            simp [Op.operands] at hx
          go_wp2_with fail
          first | exact ⟨below_size.alloc (Nat.le_refl _) _, w1.heap.size, rfl, Nat.le_refl _, by simp, Blk.new w1 _ _⟩ | exact ⟨_, rfl, below_size.alloc (Nat.le_refl _) _, w1.heap.size, rfl, Nat.le_refl _, by simp, Blk.new w1 _ _⟩
        · intro a1 w1 hf
          obtain ⟨R, hR, hd⟩ := hf.facts
          have hv40 : MixA.val a1 40 = .agg #[.int .i64 3, .int .i64 a, .int .i64 ((k : Int) - 1)] := (hR 9 (by decide)).1
          obtain ⟨g4, hv4, l4, r4, h4⟩ : ∃ g', MixA.val a1 4 = .pointer (some ⟨g', 0, none⟩) ∧ (R 10).1 ≤ g' ∧ g' < (R 10).2 ∧ Blk w1 g' 37 #[i64 0, i64 0, i64 0] := (hR 10 (by decide)).1
          have b4 := (hR 10 (by decide)).2
          have hg4 : w3.heap.size ≤ g4 := Nat.le_trans b4.1 l4
          have m0 := h4.cell 0; have m1 := h4.cell 1; have m2 := h4.cell 2
          have f0 := h4.frozen 0; have f1 := h4.frozen 1; have f2 := h4.frozen 2
          simp at m0 m1 m2
          have E1 := Lib.hid (below_of_drew hf.below)
          obtain ⟨w5, hw5⟩ : ∃ w5, ((w1.setCell ⟨g4, 0, none⟩ (i64 3)).setCell ⟨g4, 1, none⟩ (i64 a)).setCell ⟨g4, 2, none⟩ (i64 ((k : Int) - 1)) = w5 := ⟨_, rfl⟩
          have E5 := Lib.hid (show Below w3.heap.size w3 w5 by rw [← hw5]; exact ((E1.out.setCell (by exact hg4) _).setCell (by exact hg4) _).setCell (by exact hg4) _)
          have B5 := Lib.hid (show Blk w5 g4 37 #[i64 3, i64 a, i64 ((k : Int) - 1)] by rw [← hw5]; exact ((h4.set_ 0 _).set_ 1 _).set_ 2 _)
          rw [hf.act]
          clear hR hd h4 b4 l4 r4 EW
          simp only [List.foldl_cons, List.foldl_nil, hv4, hv40]
          clear hv4 hv40 hf
          simp only [Act.put, List.setIfInBounds_toArray, List.set_cons_succ, List.set_cons_zero]
          have d0 := B5.out.cell 0; have d1 := B5.out.cell 1; have d2 := B5.out.cell 2
          simp at d0 d1 d2
          have EW2 : ∀ w1 : World, Below w5.drew.heap.size w5.drew w1 → Below w5.heap.size w5 w1 := fun w1 hb => below_of_drew hb
          have z5 := E5.out.size
          go_wp2_with fail
          clear m0 m1 m2 f0 f1 f2 hw5 d0 d1 d2
        -- behind the region A
          -- region B
          refine MixA.wp_facts2 4 [41, 42, 43, 44] [[], [0], [], [2]]
            [MixA.fP (.agg #[.int .i64 3, .int .i64 a, .int .i64 ((k : Int) - 1)]),
             MixA.fC 37 1 #[i64 3, i64 a, i64 ((k : Int) - 1)],
             MixA.fP (.slice (some ⟨gp, 0, none⟩) k cc),
             fW NN (ps.flatten.flatMap enc3)]
            (by kernel_rfl) (by kernel_rfl) (fun t ht => Nat.lt_of_lt_of_eq (show t < 46 by revert t; decide) rfl) ?_ ?_
          · intro f hf
            simp only [List.mem_cons, List.not_mem_nil, or_false] at hf
            rcases hf with rfl | rfl | rfl | rfl
            · exact MixA.fP_st _
            · exact MixA.fC_st _ _ _
            · exact MixA.fP_st _
            · exact fW_st _ _
          simp only [MixA.EachG]
          refine ⟨?_, ?_, ?_, ?_, ?_⟩
          · intro a1 w1 hf
            have E1 := EW2 w1 hf.below
            have B6 := B5.out.keep E1
            have d0 := B6.cell 0; have d1 := B6.cell 1; have d2 := B6.cell 2
            simp at d0 d1 d2
            clear E1 B6
            refine MixA.hop ⟨#[undef, undef, undef, undef, (.pointer (some ⟨g4, 0, none⟩)), undef, undef, undef, undef, undef, undef, undef, undef, undef, undef, undef, undef, undef, undef, undef, undef, undef, undef, undef, undef, undef, undef, undef, undef, undef, undef, undef, undef, undef, undef, undef, undef, undef, undef, undef, undef, undef], []⟩ (by intro cs b e; cases e) rfl (show 41 < 42 by decide) ?_ ?_
            · intro x hx
              simp [Op.operands] at hx
              rcases hx with rfl
              · exact (hf.was (t := 4) (by decide) rfl).trans rfl
            go_wp2_with fail
            first | exact ⟨below_size, rfl⟩ | exact ⟨_, rfl, below_size, rfl⟩
          · intro a1 w1 hf
            obtain ⟨R, hR, _⟩ := hf.facts
            have hv41 : MixA.val a1 41 = .agg #[.int .i64 3, .int .i64 a, .int .i64 ((k : Int) - 1)] := (hR 0 (by decide)).1
            clear hR
            refine MixA.hop ⟨#[undef, undef, undef, undef, undef, undef, undef, undef, undef, undef, undef, undef, undef, undef, undef, undef, undef, undef, undef, undef, undef, undef, undef, undef, undef, undef, undef, undef, undef, undef, undef, undef, undef, undef, undef, undef, undef, undef, undef, undef, undef, (.agg #[.int .i64 3, .int .i64 a, .int .i64 ((k : Int) - 1)]), undef], []⟩ (by intro cs b e; cases e) rfl (show 42 < 43 by decide) ?_ ?_
            · intro x hx
              simp [Op.operands] at hx
              rcases hx with rfl
              · exact hv41.trans rfl
            go_wp2_with fail
            first | exact ⟨below_size.alloc (Nat.le_refl _) _, w1.heap.size, rfl, Nat.le_refl _, by simp, Blk.new w1 _ _⟩ | exact ⟨_, rfl, below_size.alloc (Nat.le_refl _) _, w1.heap.size, rfl, Nat.le_refl _, by simp, Blk.new w1 _ _⟩
          · intro a1 w1 hf
            refine MixA.hop ⟨#[undef, undef, undef, (.slice (some ⟨gp, 0, none⟩) k cc), undef, undef, undef, undef, undef, undef, undef, undef, undef, undef, undef, undef, undef, undef, undef, undef, undef, undef, undef, undef, undef, undef, undef, undef, undef, undef, undef, undef, undef, undef, undef, undef, undef, undef, undef, undef, undef, undef, undef, undef], []⟩ (by intro cs b e; cases e) rfl (show 43 < 44 by decide) ?_ ?_
            · intro x hx
              simp [Op.operands] at hx
              rcases hx with rfl
              · exact (hf.was (t := 3) (by decide) rfl).trans rfl
            go_wp2_with fail
            first | exact ⟨below_size, rfl⟩ | exact ⟨_, rfl, below_size, rfl⟩
          · intro a1 w1 hf
            have E1 := EW2 w1 hf.below
            have RV := Lib.hid (HRV.out.below E5.out |>.below E1)
            clear E1
            refine MixA.hop ⟨#[undef, undef, undef, undef, undef, undef, undef, undef, undef, undef, undef, undef, undef, undef, undef, undef, undef, undef, undef, undef, undef, undef, undef, undef, undef, undef, undef, undef, undef, undef, undef, undef, undef, undef, undef, undef, undef, undef, undef, undef, undef, undef, undef, (.slice (some ⟨gp, 0, none⟩) k cc), undef], []⟩ (by intro cs b e; cases e) rfl (show 44 < 45 by decide) ?_ ?_
            · intro x hx
              simp [Op.operands, Call.operands] at hx
              rcases hx with rfl | rfl
              · rfl
              · exact (hf.pure (j := 2) (by decide) rfl).trans rfl
            go_wp2_with fail
            refine (concatFunc_c (some ⟨gp, 0, none⟩) k cc its w1 RV.out (by omega) (by rw [HSUM.out]; omega)).mono ?_
            rw [HSUM.out, HCAT.out]
            rintro e w2 ⟨A9, c9, rfl, hw9, hc9, hb9⟩
            have W9 := Lib.hid hw9; have B9 := Lib.hid hb9
            clear hw9 hc9 hb9
            go_wp2_with fail
            first | exact ⟨B9.out, A9, c9, rfl, W9.out⟩ | exact ⟨_, rfl, B9.out, A9, c9, rfl, W9.out⟩
          · intro a1 w1 hf
            obtain ⟨R, hR, hd⟩ := hf.facts
            obtain ⟨g9, hv42, l9, r9, h9⟩ : ∃ g', MixA.val a1 42 = .slice (some ⟨g', 0, none⟩) 1 1 ∧ (R 1).1 ≤ g' ∧ g' < (R 1).2 ∧ Blk w1 g' 37 #[i64 3, i64 a, i64 ((k : Int) - 1)] := (hR 1 (by decide)).1
            obtain ⟨A15, c15, hv44, h15⟩ : ∃ A c, MixA.val a1 44 = .slice A NN c ∧ Wr w1 (R 3).1 (R 3).2 A (NN * 3) (ps.flatten.flatMap enc3) := (hR 3 (by decide)).1
            have b9 := (hR 1 (by decide)).2
            obtain ⟨ad15, _, rfl, _⟩ := h15.at_ (k := 0) (by omega)
            have hcs := h15.rd
            have E1 := Lib.hid (below_of_drew hf.below)
            rw [hf.act]
            simp only [List.foldl_cons, List.foldl_nil, hv42, hv44]
            clear hv42 hv44 hf hR hd
            simp only [Act.put, List.setIfInBounds_toArray, List.set_cons_succ, List.set_cons_zero]
            have hg9 : w5.heap.size ≤ g9 := Nat.le_trans b9.1 l9
            have z1' := E1.out.size
            refine wpo_app _ _ 22 37 (.agg #[.int .i64 0, .int .i64 0, .int .i64 0]) 3 24 (by rfl) Tryd.underlying22 info_pFunc rfl (by omega) w5.heap.size (some ⟨g9, 0, none⟩) 1 1 [i64 3, i64 a, i64 ((k : Int) - 1)] (by rfl) (h9.ownK hg9 rfl (by omega)) ad15 NN c15 (ps.flatten.flatMap enc3) (by rfl) (by omega) (by rw [hcs.1]) (by obtain ⟨_, hq⟩ := hcs; obtain ⟨_, e, _, h⟩ := hq (by omega); injection e with e; subst e; exact h) (one_tri _) (by omega) (by omega) (by omega) ?_
            intro g' cap w7 own7 hb7 hk7 hg7 hz7
            have O7 := Lib.hid own7; have B7 := Lib.hid (show Below w3.heap.size w3 w7 from E5.out.trans ((E1.out.trans (hb7.mono (by omega))).mono (by omega)))
            have hcap7 := own7.cap
            clear own7 hb7 hk7 hg7 hz7 h9 h15 hcs E1 EW2
            go_wp2_with fail
            go_ret
            rw [HA.out]
            refine ⟨some ⟨g', 0, none⟩, 1 + NN, cap, by simp, ?_, hcap7, S3.out.belowB B7.out (by omega), K3.out.thenF B7.out (by omega)⟩
            have h7 := O7.out.wrK.wider (lo' := w.heap.size) (by omega) (Nat.le_refl _)
            exact h7
          -- behind the region B
      by_cases hbtrue : b = true
      · subst hbtrue
        skip
        go_wp2_with fail
        refine (needF_c g L (s, true) [41] _ (by rfl) wr hS.out).mono ?_
        rintro e w3 ⟨rfl, hs3, hk3⟩
        have S3 := Lib.hid hs3; have K3 := Lib.hid (hK.out.trans hk3); have z3 := hk3.size
        have HRV := Lib.hid (HRV2.out w3 hk3)
        have HC1 := Lib.hid (show w3.cell? ⟨gp, 1, none⟩ = some (.slice (some ad1) n1' c1') from hk3.cell (.inr (by show g + 1 ≤ gp; omega)) hcp)
        have HCA := Lib.hid (show w3.cell? ⟨ad1.block, ad1.off + 1, none⟩ = some (i64 a) from hk3.cell (.inr (by show g + 1 ≤ ad1.block; omega)) hca)
        have EW : ∀ w1 : World, Below w3.drew.heap.size w3.drew w1 → Below w3.heap.size w3 w1 := fun w1 hb => below_of_drew hb
        clear hs3 hk3 q1 HRV2 HRVr HOSr hcp hca
        go_wp2_with fail
        -- region A
        refine MixA.wp_facts 11 [31, 32, 33, 34, 35, 36, 37, 38, 39, 40, 4] [[], [0], [1], [2], [3], [4], [], [6], [7], [5, 8], []]
          [MixA.fP (.slice (some ⟨gp, 0, none⟩) k cc),
           MixA.fP (.pointer (some ⟨gp, 1, none⟩)),
           MixA.fP (.slice (some ad1) n1' c1'),
           MixA.fP (.pointer (some ad1)),
           MixA.fP (.pointer (some ⟨ad1.block, ad1.off + 1, none⟩)),
           MixA.fP (.int .i64 a),
           MixA.fP (.slice (some ⟨gp, 0, none⟩) k cc),
           MixA.fP (.int .i64 k),
           MixA.fP (.int .i64 ((k : Int) - 1)),
           MixA.fP (.agg #[.int .i64 3, .int .i64 a, .int .i64 ((k : Int) - 1)]),
           MixA.fB 37 #[i64 0, i64 0, i64 0]]
          (by kernel_rfl) (by kernel_rfl) (fun t ht => Nat.lt_of_lt_of_eq (show t < 46 by revert t; decide) rfl) ?_ ?_
        · intro f hf
          simp only [List.mem_cons, List.not_mem_nil, or_false] at hf
          rcases hf with rfl | rfl | rfl | rfl | rfl | rfl | rfl | rfl | rfl | rfl | rfl
          · exact MixA.fP_st _
          · exact MixA.fP_st _
          · exact MixA.fP_st _
          · exact MixA.fP_st _
          · exact MixA.fP_st _
          · exact MixA.fP_st _
          · exact MixA.fP_st _
          · exact MixA.fP_st _
          · exact MixA.fP_st _
          · exact MixA.fP_st _
          · exact MixA.fB_st _ _
        simp only [MixA.EachF]
        refine ⟨?_, ?_, ?_, ?_, ?_, ?_, ?_, ?_, ?_, ?_, ?_, ?_⟩
        · intro a1 w1 hf
          refine MixA.hop ⟨#[undef, undef, undef, (.slice (some ⟨gp, 0, none⟩) k cc), undef, undef, undef, undef, undef, undef, undef, undef, undef, undef, undef, undef, undef, undef, undef, undef, undef, undef, undef, undef, undef, undef, undef, undef, undef, undef, undef, undef], []⟩ (by intro cs b e; cases e) rfl (show 31 < 32 by decide) ?_ ?_
          · intro x hx
            simp [Op.operands] at hx
            rcases hx with rfl
            · exact (hf.was (t := 3) (by decide) rfl).trans rfl
          go_wp2_with fail
          first | exact ⟨below_size, rfl⟩ | exact ⟨_, rfl, below_size, rfl⟩
        · intro a1 w1 hf
          refine MixA.hop ⟨#[undef, undef, undef, undef, undef, undef, undef, undef, undef, undef, undef, undef, undef, undef, undef, undef, undef, undef, undef, undef, undef, undef, undef, undef, undef, undef, undef, undef, undef, undef, undef, (.slice (some ⟨gp, 0, none⟩) k cc), undef], []⟩ (by intro cs b e; cases e) rfl (show 32 < 33 by decide) ?_ ?_
          · intro x hx
            simp [Op.operands] at hx
            rcases hx with rfl | rfl
            · exact (hf.pure (j := 0) (by decide) rfl).trans rfl
            · rfl
          go_wp2_with fail
          first | exact ⟨below_size, rfl⟩ | exact ⟨_, rfl, below_size, rfl⟩
        · intro a1 w1 hf
          have E1 := EW w1 hf.below
          have hc0 : w1.cell? ⟨gp, 1, none⟩ = some (.slice (some ad1) n1' c1') := keepc E1 HC1.out
          clear E1
          refine MixA.hop ⟨#[undef, undef, undef, undef, undef, undef, undef, undef, undef, undef, undef, undef, undef, undef, undef, undef, undef, undef, undef, undef, undef, undef, undef, undef, undef, undef, undef, undef, undef, undef, undef, undef, (.pointer (some ⟨gp, 1, none⟩)), undef], []⟩ (by intro cs b e; cases e) rfl (show 33 < 34 by decide) ?_ ?_
          · intro x hx
            simp [Op.operands] at hx
            rcases hx with rfl
            · exact (hf.pure (j := 1) (by decide) rfl).trans rfl
          go_wp2_with fail
          first | exact ⟨below_size, rfl⟩ | exact ⟨_, rfl, below_size, rfl⟩
        · intro a1 w1 hf
          obtain ⟨R, hR, _⟩ := hf.facts
          have hv33 : MixA.val a1 33 = .slice (some ad1) n1' c1' := (hR 2 (by decide)).1
          clear hR
          refine MixA.hop ⟨#[undef, undef, undef, undef, undef, undef, undef, undef, undef, undef, undef, undef, undef, undef, undef, undef, undef, undef, undef, undef, undef, undef, undef, undef, undef, undef, undef, undef, undef, undef, undef, undef, undef, (.slice (some ad1) n1' c1'), undef], []⟩ (by intro cs b e; cases e) rfl (show 34 < 35 by decide) ?_ ?_
          · intro x hx
            simp [Op.operands] at hx
            rcases hx with rfl | rfl
            · exact hv33.trans rfl
            · rfl
          go_wp2_with fail
          first | exact ⟨below_size, rfl⟩ | exact ⟨_, rfl, below_size, rfl⟩
        · intro a1 w1 hf
          obtain ⟨R, hR, _⟩ := hf.facts
          have hv34 : MixA.val a1 34 = .pointer (some ad1) := (hR 3 (by decide)).1
          clear hR
          refine MixA.hop ⟨#[undef, undef, undef, undef, undef, undef, undef, undef, undef, undef, undef, undef, undef, undef, undef, undef, undef, undef, undef, undef, undef, undef, undef, undef, undef, undef, undef, undef, undef, undef, undef, undef, undef, undef, (.pointer (some ad1)), undef], []⟩ (by intro cs b e; cases e) rfl (show 35 < 36 by decide) ?_ ?_
          · intro x hx
            simp [Op.operands] at hx
            rcases hx with rfl
            · exact hv34.trans rfl
          go_wp2_with fail
          first | exact ⟨below_size, rfl⟩ | exact ⟨_, rfl, below_size, rfl⟩
        · intro a1 w1 hf
          obtain ⟨R, hR, _⟩ := hf.facts
          have hv35 : MixA.val a1 35 = .pointer (some ⟨ad1.block, ad1.off + 1, none⟩) := (hR 4 (by decide)).1
          have E1 := EW w1 hf.below
          have hc0 : w1.cell? ⟨ad1.block, ad1.off + 1, none⟩ = some (i64 a) := keepc E1 HCA.out
          clear hR E1
          refine MixA.hop ⟨#[undef, undef, undef, undef, undef, undef, undef, undef, undef, undef, undef, undef, undef, undef, undef, undef, undef, undef, undef, undef, undef, undef, undef, undef, undef, undef, undef, undef, undef, undef, undef, undef, undef, undef, undef, (.pointer (some ⟨ad1.block, ad1.off + 1, none⟩)), undef], []⟩ (by intro cs b e; cases e) rfl (show 36 < 37 by decide) ?_ ?_
          · intro x hx
            simp [Op.operands] at hx
            rcases hx with rfl
            · exact hv35.trans rfl
          go_wp2_with fail
          first | exact ⟨below_size, rfl⟩ | exact ⟨_, rfl, below_size, rfl⟩
        · intro a1 w1 hf
          refine MixA.hop ⟨#[undef, undef, undef, (.slice (some ⟨gp, 0, none⟩) k cc), undef, undef, undef, undef, undef, undef, undef, undef, undef, undef, undef, undef, undef, undef, undef, undef, undef, undef, undef, undef, undef, undef, undef, undef, undef, undef, undef, undef, undef, undef, undef, undef, undef, undef], []⟩ (by intro cs b e; cases e) rfl (show 37 < 38 by decide) ?_ ?_
          · intro x hx
            simp [Op.operands] at hx
            rcases hx with rfl
            · exact (hf.was (t := 3) (by decide) rfl).trans rfl
          go_wp2_with fail
          first | exact ⟨below_size, rfl⟩ | exact ⟨_, rfl, below_size, rfl⟩
        · intro a1 w1 hf
          refine MixA.hop ⟨#[undef, undef, undef, undef, undef, undef, undef, undef, undef, undef, undef, undef, undef, undef, undef, undef, undef, undef, undef, undef, undef, undef, undef, undef, undef, undef, undef, undef, undef, undef, undef, undef, undef, undef, undef, undef, undef, (.slice (some ⟨gp, 0, none⟩) k cc), undef], []⟩ (by intro cs b e; cases e) rfl (show 38 < 39 by decide) ?_ ?_
          · intro x hx
            simp [Op.operands, Call.operands] at hx
            rcases hx with rfl | rfl
            · rfl
            · exact (hf.pure (j := 6) (by decide) rfl).trans rfl
          go_wp2_with fail
          refine (sizeParts_c _ _ _ _ (by omega)).mono ?_
          rintro e w2 ⟨rfl, rfl⟩
          go_wp2_with fail
          first | exact ⟨below_size, rfl⟩ | exact ⟨_, rfl, below_size, rfl⟩
        · intro a1 w1 hf
          obtain ⟨R, hR, _⟩ := hf.facts
          have hv38 : MixA.val a1 38 = .int .i64 k := (hR 7 (by decide)).1
          clear hR
          refine MixA.hop ⟨#[undef, undef, undef, undef, undef, undef, undef, undef, undef, undef, undef, undef, undef, undef, undef, undef, undef, undef, undef, undef, undef, undef, undef, undef, undef, undef, undef, undef, undef, undef, undef, undef, undef, undef, undef, undef, undef, undef, (.int .i64 k), undef], []⟩ (by intro cs b e; cases e) rfl (show 39 < 40 by decide) ?_ ?_
          · intro x hx
            simp [Op.operands] at hx
            rcases hx with rfl | rfl
            · exact hv38.trans rfl
            · rfl
          go_wp2_with fail
          first | exact ⟨below_size, rfl⟩ | exact ⟨_, rfl, below_size, rfl⟩
        · intro a1 w1 hf
          obtain ⟨R, hR, _⟩ := hf.facts
          have hv36 : MixA.val a1 36 = .int .i64 a := (hR 5 (by decide)).1
          have hv39 : MixA.val a1 39 = .int .i64 ((k : Int) - 1) := (hR 8 (by decide)).1
          clear hR
          refine MixA.hop ⟨#[undef, undef, undef, undef, undef, undef, undef, undef, undef, undef, undef, undef, undef, undef, undef, undef, undef, undef, undef, undef, undef, undef, undef, undef, undef, undef, undef, undef, undef, undef, undef, undef, undef, undef, undef, undef, (.int .i64 a), undef, undef, (.int .i64 ((k : Int) - 1)), undef], []⟩ (by intro cs b e; cases e) rfl (show 40 < 41 by decide) ?_ ?_
          · intro x hx
            simp [Op.operands] at hx
            rcases hx with rfl | rfl | rfl
            · rfl
            · exact hv36.trans rfl
            · exact hv39.trans rfl
          go_wp2_with fail
          first | exact ⟨below_size, rfl⟩ | exact ⟨_, rfl, below_size, rfl⟩
        · intro a1 w1 hf
          refine MixA.hop ⟨#[undef, undef, undef, undef, undef], []⟩ (by intro cs b e; cases e) rfl (show 4 < 5 by decide) ?_ ?_
          · intro x hx
            simp [Op.operands] at hx
          go_wp2_with fail
          first | exact ⟨below_size.alloc (Nat.le_refl _) _, w1.heap.size, rfl, Nat.le_refl _, by simp, Blk.new w1 _ _⟩ | exact ⟨_, rfl, below_size.alloc (Nat.le_refl _) _, w1.heap.size, rfl, Nat.le_refl _, by simp, Blk.new w1 _ _⟩
        · intro a1 w1 hf
          obtain ⟨R, hR, hd⟩ := hf.facts
          have hv40 : MixA.val a1 40 = .agg #[.int .i64 3, .int .i64 a, .int .i64 ((k : Int) - 1)] := (hR 9 (by decide)).1
          obtain ⟨g4, hv4, l4, r4, h4⟩ : ∃ g', MixA.val a1 4 = .pointer (some ⟨g', 0, none⟩) ∧ (R 10).1 ≤ g' ∧ g' < (R 10).2 ∧ Blk w1 g' 37 #[i64 0, i64 0, i64 0] := (hR 10 (by decide)).1
          have b4 := (hR 10 (by decide)).2
          have hg4 : w3.heap.size ≤ g4 := Nat.le_trans b4.1 l4
          have m0 := h4.cell 0; have m1 := h4.cell 1; have m2 := h4.cell 2
          have f0 := h4.frozen 0; have f1 := h4.frozen 1; have f2 := h4.frozen 2
          simp at m0 m1 m2
          have E1 := Lib.hid (below_of_drew hf.below)
          obtain ⟨w5, hw5⟩ : ∃ w5, ((w1.setCell ⟨g4, 0, none⟩ (i64 3)).setCell ⟨g4, 1, none⟩ (i64 a)).setCell ⟨g4, 2, none⟩ (i64 ((k : Int) - 1)) = w5 := ⟨_, rfl⟩
          have E5 := Lib.hid (show Below w3.heap.size w3 w5 by rw [← hw5]; exact ((E1.out.setCell (by exact hg4) _).setCell (by exact hg4) _).setCell (by exact hg4) _)
          have B5 := Lib.hid (show Blk w5 g4 37 #[i64 3, i64 a, i64 ((k : Int) - 1)] by rw [← hw5]; exact ((h4.set_ 0 _).set_ 1 _).set_ 2 _)
          rw [hf.act]
          clear hR hd h4 b4 l4 r4 EW
          simp only [List.foldl_cons, List.foldl_nil, hv4, hv40]
          clear hv4 hv40 hf
          simp only [Act.put, List.setIfInBounds_toArray, List.set_cons_succ, List.set_cons_zero]
          have d0 := B5.out.cell 0; have d1 := B5.out.cell 1; have d2 := B5.out.cell 2
          simp at d0 d1 d2
          have EW2 : ∀ w1 : World, Below w5.drew.heap.size w5.drew w1 → Below w5.heap.size w5 w1 := fun w1 hb => below_of_drew hb
          have z5 := E5.out.size
          go_wp2_with fail
          clear m0 m1 m2 f0 f1 f2 hw5 d0 d1 d2
        -- behind the region A
          -- region B
          refine MixA.wp_facts2 4 [41, 42, 43, 44] [[], [0], [], [2]]
            [MixA.fP (.agg #[.int .i64 3, .int .i64 a, .int .i64 ((k : Int) - 1)]),
             MixA.fC 37 1 #[i64 3, i64 a, i64 ((k : Int) - 1)],
             MixA.fP (.slice (some ⟨gp, 0, none⟩) k cc),
             fW NN (ps.flatten.flatMap enc3)]
            (by kernel_rfl) (by kernel_rfl) (fun t ht => Nat.lt_of_lt_of_eq (show t < 46 by revert t; decide) rfl) ?_ ?_
          · intro f hf
            simp only [List.mem_cons, List.not_mem_nil, or_false] at hf
            rcases hf with rfl | rfl | rfl | rfl
            · exact MixA.fP_st _
            · exact MixA.fC_st _ _ _
            · exact MixA.fP_st _
            · exact fW_st _ _
          simp only [MixA.EachG]
          refine ⟨?_, ?_, ?_, ?_, ?_⟩
          · intro a1 w1 hf
            have E1 := EW2 w1 hf.below
            have B6 := B5.out.keep E1
            have d0 := B6.cell 0; have d1 := B6.cell 1; have d2 := B6.cell 2
            simp at d0 d1 d2
            clear E1 B6
            refine MixA.hop ⟨#[undef, undef, undef, undef, (.pointer (some ⟨g4, 0, none⟩)), undef, undef, undef, undef, undef, undef, undef, undef, undef, undef, undef, undef, undef, undef, undef, undef, undef, undef, undef, undef, undef, undef, undef, undef, undef, undef, undef, undef, undef, undef, undef, undef, undef, undef, undef, undef, undef], []⟩ (by intro cs b e; cases e) rfl (show 41 < 42 by decide) ?_ ?_
            · intro x hx
              simp [Op.operands] at hx
              rcases hx with rfl
              · exact (hf.was (t := 4) (by decide) rfl).trans rfl
            go_wp2_with fail
            first | exact ⟨below_size, rfl⟩ | exact ⟨_, rfl, below_size, rfl⟩
          · intro a1 w1 hf
            obtain ⟨R, hR, _⟩ := hf.facts
            have hv41 : MixA.val a1 41 = .agg #[.int .i64 3, .int .i64 a, .int .i64 ((k : Int) - 1)] := (hR 0 (by decide)).1
            clear hR
            refine MixA.hop ⟨#[undef, undef, undef, undef, undef, undef, undef, undef, undef, undef, undef, undef, undef, undef, undef, undef, undef, undef, undef, undef, undef, undef, undef, undef, undef, undef, undef, undef, undef, undef, undef, undef, undef, undef, undef, undef, undef, undef, undef, undef, undef, (.agg #[.int .i64 3, .int .i64 a, .int .i64 ((k : Int) - 1)]), undef], []⟩ (by intro cs b e; cases e) rfl (show 42 < 43 by decide) ?_ ?_
            · intro x hx
              simp [Op.operands] at hx
              rcases hx with rfl
              · exact hv41.trans rfl
            go_wp2_with fail
            first | exact ⟨below_size.alloc (Nat.le_refl _) _, w1.heap.size, rfl, Nat.le_refl _, by simp, Blk.new w1 _ _⟩ | exact ⟨_, rfl, below_size.alloc (Nat.le_refl _) _, w1.heap.size, rfl, Nat.le_refl _, by simp, Blk.new w1 _ _⟩
          · intro a1 w1 hf
            refine MixA.hop ⟨#[undef, undef, undef, (.slice (some ⟨gp, 0, none⟩) k cc), undef, undef, undef, undef, undef, undef, undef, undef, undef, undef, undef, undef, undef, undef, undef, undef, undef, undef, undef, undef, undef, undef, undef, undef, undef, undef, undef, undef, undef, undef, undef, undef, undef, undef, undef, undef, undef, undef, undef, undef], []⟩ (by intro cs b e; cases e) rfl (show 43 < 44 by decide) ?_ ?_
            · intro x hx
              simp [Op.operands] at hx
              rcases hx with rfl
              · exact (hf.was (t := 3) (by decide) rfl).trans rfl
            go_wp2_with fail
            first | exact ⟨below_size, rfl⟩ | exact ⟨_, rfl, below_size, rfl⟩
          · intro a1 w1 hf
            have E1 := EW2 w1 hf.below
            have RV := Lib.hid (HRV.out.below E5.out |>.below E1)
            clear E1
            refine MixA.hop ⟨#[undef, undef, undef, undef, undef, undef, undef, undef, undef, undef, undef, undef, undef, undef, undef, undef, undef, undef, undef, undef, undef, undef, undef, undef, undef, undef, undef, undef, undef, undef, undef, undef, undef, undef, undef, undef, undef, undef, undef, undef, undef, undef, undef, (.slice (some ⟨gp, 0, none⟩) k cc), undef], []⟩ (by intro cs b e; cases e) rfl (show 44 < 45 by decide) ?_ ?_
            · intro x hx
              simp [Op.operands, Call.operands] at hx
              rcases hx with rfl | rfl
              · rfl
              · exact (hf.pure (j := 2) (by decide) rfl).trans rfl
            go_wp2_with fail
            refine (concatFunc_c (some ⟨gp, 0, none⟩) k cc its w1 RV.out (by omega) (by rw [HSUM.out]; omega)).mono ?_
            rw [HSUM.out, HCAT.out]
            rintro e w2 ⟨A9, c9, rfl, hw9, hc9, hb9⟩
            have W9 := Lib.hid hw9; have B9 := Lib.hid hb9
            clear hw9 hc9 hb9
            go_wp2_with fail
            first | exact ⟨B9.out, A9, c9, rfl, W9.out⟩ | exact ⟨_, rfl, B9.out, A9, c9, rfl, W9.out⟩
          · intro a1 w1 hf
            obtain ⟨R, hR, hd⟩ := hf.facts
            obtain ⟨g9, hv42, l9, r9, h9⟩ : ∃ g', MixA.val a1 42 = .slice (some ⟨g', 0, none⟩) 1 1 ∧ (R 1).1 ≤ g' ∧ g' < (R 1).2 ∧ Blk w1 g' 37 #[i64 3, i64 a, i64 ((k : Int) - 1)] := (hR 1 (by decide)).1
            obtain ⟨A15, c15, hv44, h15⟩ : ∃ A c, MixA.val a1 44 = .slice A NN c ∧ Wr w1 (R 3).1 (R 3).2 A (NN * 3) (ps.flatten.flatMap enc3) := (hR 3 (by decide)).1
            have b9 := (hR 1 (by decide)).2
            obtain ⟨ad15, _, rfl, _⟩ := h15.at_ (k := 0) (by omega)
            have hcs := h15.rd
            have E1 := Lib.hid (below_of_drew hf.below)
            rw [hf.act]
            simp only [List.foldl_cons, List.foldl_nil, hv42, hv44]
            clear hv42 hv44 hf hR hd
            simp only [Act.put, List.setIfInBounds_toArray, List.set_cons_succ, List.set_cons_zero]
            have hg9 : w5.heap.size ≤ g9 := Nat.le_trans b9.1 l9
            have z1' := E1.out.size
            refine wpo_app _ _ 22 37 (.agg #[.int .i64 0, .int .i64 0, .int .i64 0]) 3 24 (by rfl) Tryd.underlying22 info_pFunc rfl (by omega) w5.heap.size (some ⟨g9, 0, none⟩) 1 1 [i64 3, i64 a, i64 ((k : Int) - 1)] (by rfl) (h9.ownK hg9 rfl (by omega)) ad15 NN c15 (ps.flatten.flatMap enc3) (by rfl) (by omega) (by rw [hcs.1]) (by obtain ⟨_, hq⟩ := hcs; obtain ⟨_, e, _, h⟩ := hq (by omega); injection e with e; subst e; exact h) (one_tri _) (by omega) (by omega) (by omega) ?_
            intro g' cap w7 own7 hb7 hk7 hg7 hz7
            have O7 := Lib.hid own7; have B7 := Lib.hid (show Below w3.heap.size w3 w7 from E5.out.trans ((E1.out.trans (hb7.mono (by omega))).mono (by omega)))
            have hcap7 := own7.cap
            clear own7 hb7 hk7 hg7 hz7 h9 h15 hcs E1 EW2
            go_wp2_with fail
            go_ret
            rw [HA.out]
            refine ⟨some ⟨g', 0, none⟩, 1 + NN, cap, by simp, ?_, hcap7, S3.out.belowB B7.out (by omega), K3.out.thenF B7.out (by omega)⟩
            have h7 := O7.out.wrK.wider (lo' := w.heap.size) (by omega) (Nat.le_refl _)
            exact h7
          -- behind the region B
      exact absurd (by cases b; rfl; exact absurd rfl hbtrue) hbfalse
theorem reader_c (g L : Nat) : ∀ N, N ≤ 3000 → RdrK g L N
  | 0, _ => fun st w h hN => absurd hN (Nat.not_lt_zero _)
  | N + 1, hN => function1_c g L N (by omega) (reader_c g L N (by omega)) (composition1_c g L N (by omega) (reader_c g L N (by omega)))
theorem rfI_bad {s : List UInt8} (h : 600 < s.length ∨ (ixF (s.length + 1) (s, false)).2.2 = true ∨ (ixF (s.length + 1) (s, false)).2.1 ≠ [] ∨ txF (ixF (s.length + 1) (s, false)).1 ≠ s) : rfS s = ([], false) := by rw [rfS, ← rf_eq, ifR, if_pos h]
theorem rfI_good {s : List UInt8} (h : s.length ≤ 600) (h1 : (ixF (s.length + 1) (s, false)).2.2 = false) (h2 : (ixF (s.length + 1) (s, false)).2.1 = []) (h3 : txF (ixF (s.length + 1) (s, false)).1 = s) : rfS s = ((ixF (s.length + 1) (s, false)).1, true) := by
  rw [rfS, ← rf_eq, ifR, if_neg]
  rintro (g | g | g | g)
  · omega
  · rw [h1] at g; cases g
  · exact g h2
  · exact g h3
set_option maxHeartbeats 4000000 in
set_option maxRecDepth 100000 in
theorem iReadFunc_t (s : List UInt8) (w : World) (hs : s.length ≤ 1048576) (ht : Tab w) : Calls Tryd.prog 6 #[.string (bs s)] w (FnOutB (rfS s) w) := by
  obtain ⟨R, hR⟩ : ∃ R, rfS s = R := ⟨_, rfl⟩
  rw [hR]
  have HR := Lib.hid hR
  obtain ⟨n0, hn0⟩ : ∃ n, (bs s).size = n := ⟨_, rfl⟩
  have hln : s.length = n0 := by rw [← hn0, bs_size]
  by_cases hl : 600 < n0
  · have HG := Lib.hid (show (([], false) : List Nd3 × Bool) = R by rw [← HR.out, rfI_bad (.inl (by rw [hln]; exact hl))])
    have hnb : n0 ≤ 1048576 := by omega
    clear hR hs hln ht
    go_enter Tryd.func6, Tryd.ntmps6
    go_wp2_with fail
    go_ret2
    rw [← HG.out]
    exact FnOutB.bad below_size
  have HL := Lib.hid (show s.length ≤ 600 by omega)
  have kx := ixF_ok (s.length + 1) (s, false)
  obtain ⟨⟨f, r, b⟩, hx⟩ : ∃ q, ixF (s.length + 1) (s, false) = q := ⟨_, rfl⟩
  rw [hx] at kx
  have hfl := kx.len
  simp only at hfl
  have hf6 : f.length ≤ 601 := by omega
  have hfp := List.length_pos_iff.2 kx.pos
  simp only at hfp
  have HX := Lib.hid hx; have HT := Lib.hid ht; have HLN := Lib.hid hln
  obtain ⟨w2, hw2⟩ : ∃ w2, w.alloc (.cells #[.string (bs s), .bool false] 32) = w2 := ⟨_, rfl⟩
  have E2 := Lib.hid (show Below w.heap.size w w2 by rw [← hw2]; exact below_size.alloc (Nat.le_refl _) _)
  have hz2 : w2.heap.size = w.heap.size + 1 := by rw [← hw2]; simp
  have S2 := Lib.hid (show FrS w.heap.size w2.heap.size (s, false) w2 from ⟨by rw [← hw2]; exact Blk.new _ _ _, by omega, Nat.le_refl _, by have := HL.out; simp only; omega⟩)
  have HRC := Lib.hid (reader_c w.heap.size w2.heap.size (s.length + 1) (by have := HL.out; omega) (s, false) w2 S2.out (by simp))
  rw [HX.out] at HRC
  have gl := bs_toListF s
  have hnb : n0 ≤ 600 := by omega
  clear hR hs hln ht hl kx hx hfl
  go_enter Tryd.func6, Tryd.ntmps6
  go_wp2_with fail
  refine HRC.out.mono ?_
  rintro e w3 ⟨A, n, c, rfl, hw3, hc3, hs3, hk3⟩
  have W3 := Lib.hid hw3; have B3 := Lib.hid (show Below w.heap.size w w3 from E2.out.trans (hk3.below (by omega) (by omega)))
  have k1 : w3.cell? ⟨w.heap.size, 1, none⟩ = some (.bool b) := hs3.blk.cell 1
  have k0 : w3.cell? ⟨w.heap.size, 0, none⟩ = some (.string (bs r)) := hs3.blk.cell 0
  have hfn : f.length = n := Rd3.len hw3.rd
  have HFN := Lib.hid hfn
  have hn6 : n ≤ 601 := by omega
  have hz3 := hk3.size
  clear hw3 hs3 hk3 hw2 HRC S2
  have gr := bs_toListF r
  cases b
  rotate_left
  · have HG := Lib.hid (show (([], false) : List Nd3 × Bool) = R by rw [← HR.out, rfI_bad (.inr (.inl (by rw [HX.out])))])
    clear hfn
    go_wp2_with fail
    go_ret2
    rw [← HG.out]
    exact FnOutB.bad B3.out
  cases r with
  | cons r0 r =>
    have HG := Lib.hid (show (([], false) : List Nd3 × Bool) = R by rw [← HR.out, rfI_bad (.inr (.inr (.inl (by rw [HX.out]; simp))))])
    clear hfn
    go_wp2_with fail
    go_ret2
    rw [← HG.out]
    exact FnOutB.bad B3.out
  | nil =>
    have HTX := Lib.hid (FuncText_c A n c f w3 W3.out.rd (by omega) hc3 (HT.out.below B3.out))
    obtain ⟨p, hp⟩ : ∃ p, txF f = p := ⟨_, rfl⟩
    rw [hp] at HTX
    have gw := bs_toListF p
    by_cases hts : p = s
    · have HG := Lib.hid (show (f, true) = R by rw [← HR.out, rfI_good HL.out (by rw [HX.out]) (by rw [HX.out]) (by rw [HX.out, hp]; exact hts), HX.out])
      have gt : (p == s) = true := by simp [hts]
      clear hts hp hfn
      go_wp2_with (go_at_call 14; refine HTX.out.mono ?_; rintro e w4 ⟨rfl, hb4⟩; have B4 := Lib.hid hb4; clear hb4)
      go_ret2
      rw [← HG.out]
      exact ⟨A, n, c, rfl, (W3.out.below B4.out).wider (by omega) B4.out.size, by omega, below_chain B3.out B3.out.size B4.out⟩
    · have HG := Lib.hid (show (([], false) : List Nd3 × Bool) = R by rw [← HR.out, rfI_bad (.inr (.inr (.inr (by rw [HX.out, hp]; exact hts))))])
      have gt : (p == s) = false := by rw [beq_eq_false_iff_ne]; exact hts
      clear hts hp hfn
      go_wp2_with (go_at_call 14; refine HTX.out.mono ?_; rintro e w4 ⟨rfl, hb4⟩; have B4 := Lib.hid hb4; clear hb4)
      go_ret2
      rw [← HG.out]
      exact FnOutB.bad (below_chain B3.out B3.out.size B4.out)
end Go.Proofs.YtnoapoaajidncaaDoor
