/-
  Commands behind commands: append of one command, of a list of commands, what keeps the rows apart given.
-/
import Derived.Test.YtkchgjegdmcnaaaDoorCWf
namespace Go.Proofs.YtkchgjegdmcnaaaDoor
open Go.RowKit

theorem OwnS.bndA {w : World} {B : Nat} {e : TypeId} {size n c : Nat} {A : Option Addr} {vs : List Value} {ss : List Seg} (h : OwnS w B e size A n c vs ss) (ad : Addr) (ha : A = some ad) : ad.block < w.heap.size := (h.own.block ha).2.1
theorem OwnS.bndS {w : World} {B : Nat} {e : TypeId} {size n c : Nat} {A : Option Addr} {vs : List Value} {ss : List Seg} (h : OwnS w B e size A n c vs ss) (s : Seg) (hs : s ∈ ss) (a : Addr) (ha : s.A = some a) (hn : 0 < s.n) : B ≤ a.block ∧ a.block < w.heap.size := by
  obtain ⟨a', e', h1, _, h3, _⟩ := (h.wrs.each s hs).2 hn
  rw [ha] at e'; injection e' with e'; subst e'; exact ⟨h1, h3⟩
/-- rows behind rows, with what keeps them apart given -/
theorem OwnS.join {w1 w' : World} {B B2 : Nat} {e : TypeId} {size n c g' cap n' : Nat} {A : Option Addr} {vs vs' : List Value} {ss ss2 : List Seg} (h : OwnS w1 B e size A n c vs ss) (h2 : WrS w1 B2 w1.heap.size ss2) (hB : B ≤ B2)
    (hx : ∀ t ∈ ss2, ∀ a ad, t.A = some a → 0 < t.n → A = some ad → a.block ≠ ad.block)
    (hy : ∀ s ∈ ss, ∀ t ∈ ss2, ∀ a b, s.A = some a → t.A = some b → 0 < s.n → 0 < t.n → a.block ≠ b.block)
    (hown : Own w' B e size (some ⟨g', 0, none⟩) n' cap vs') (hk : ∀ b, b < w1.heap.size → (∀ ad', A = some ad' → ad'.block ≠ b) → w'.heap[b]? = w1.heap[b]?) (hg : A = some ⟨g', 0, none⟩ ∨ g' = w1.heap.size) (hz : w1.heap.size ≤ w'.heap.size) :
    OwnS w' B e size (some ⟨g', 0, none⟩) n' cap vs' (ss ++ ss2) := by
  have hnew : ∀ t ∈ ss2, ∀ a, t.A = some a → 0 < t.n → a.block < w1.heap.size := fun t ht a ha hn => by
    obtain ⟨a', e', _, _, h3, _⟩ := (h2.each t ht).2 hn
    rw [ha] at e'; injection e' with e'; subst e'; exact h3
  refine ⟨hown, ⟨fun t ht => ?_, ?_⟩, fun t ht ad a had ha hn => ?_⟩
  · rcases List.mem_append.1 ht with ht | ht
    · exact (h.wrs.each t ht).move (fun a hn ha => hk _ (h.bndS t ht a ha hn).2 fun ad' hA' => (h.ne t ht ad' a hA' ha hn).symm) hz hz
    · exact ((h2.each t ht).wider hB (Nat.le_refl _)).move (fun a hn ha => hk _ (hnew t ht a ha hn) fun ad' hA' => (hx t ht a ad' ha hn hA').symm) hz hz
  · exact List.pairwise_append.2 ⟨h.wrs.apart, h2.apart, fun t ht u hu a b ha hb' hn hm => hy t ht u hu a b ha hb' hn hm⟩
  · injection had with had; subst had
    rcases List.mem_append.1 ht with ht | ht
    · rcases hg with hg | hg
      · exact h.ne t ht _ a hg ha hn
      · have := (h.bndS t ht a ha hn).2; show a.block ≠ g'; omega
    · rcases hg with hg | hg
      · exact hx t ht a _ ha hn hg
      · have := hnew t ht a ha hn; show a.block ≠ g'; omega
/-- a list of commands that is the call's own -/
abbrev OwnCs (w : World) (B : Nat) (A : Option Addr) (n c : Nat) (ps : List Ct) : Prop := OwnS w B 42 4 A n c (ps.flatMap hdC) (ps.map bodyC)
/-- a command more, its row above L, all else below L -/
theorem wp_appCmdG {ops : Array Oper} {rest : List Oper} {o : Oper} {a : Act} {w : World} {Q : Exit → Act → World → Prop} (hgd : o.guard = none) (s x : Operand)
    (ho : o.op = .call { callee := .builtin .append, args := #[s, x], argTypes := #[25, 25] })
    (B : Nat) (A : Option Addr) (n c : Nat) (ps : List Ct) (hs : a.eval s = .slice A n c) (h0 : OwnCs w B A n c ps)
    (L : Nat) (hL : B ≤ L) (hA : ∀ ad, A = some ad → ad.block < L) (hR : ∀ s ∈ ps.map bodyC, ∀ a, s.A = some a → 0 < s.n → a.block < L)
    (g : Nat) (t : Ct) (hx : a.eval x = .slice (some ⟨g, 0, none⟩) 1 1) (hg : Blk w g 42 #[i64 t.kd, i64 t.vr, i64 t.ln, .slice t.A t.n t.c])
    (hw : Wr w L w.heap.size t.A (t.n * 2) (t.xs.flatMap enc2)) (hlen : n ≤ 1000000000) (hBw : B ≤ w.heap.size)
    (h : ∀ A' cap w', OwnCs w' B A' (n + 1) cap (ps ++ [t]) → Below B w w' → (∀ b, b < w.heap.size → (∀ ad', A = some ad' → ad'.block ≠ b) → w'.heap[b]? = w.heap[b]?) → (A' = A ∨ A' = some ⟨w.heap.size, 0, none⟩) → w.heap.size ≤ w'.heap.size →
      wpList Tryd.prog ops Q rest (a.put o.dst (.slice A' (n + 1) cap)) w') : wpList Tryd.prog ops Q (o :: rest) a w := by
  refine wp_app hgd s x 25 42 (.agg #[.int .i64 0, .int .i64 0, .int .i64 0, .slice none 0 0]) 4 48 ho Tryd.underlying25 info_Command rfl (by omega) B A n c (ps.flatMap hdC) hs h0.own ⟨g, 0, none⟩ 1 1 (hdC t) hx (by omega) (by rfl) ?_ (hdC_one t) (by omega) (by omega) hBw ?_
  · intro j u hj
    rw [head_add, hg.cell j, ← hj, hdC]
    exact List.getElem?_toArray
  · intro g' cap w3 own3 hb3 hk3 hg3 hz3
    refine h (some ⟨g', 0, none⟩) cap w3 ?_ hb3 hk3 (hg3.elim (fun e => .inl e.symm) (fun e => .inr (by rw [e]))) hz3
    have hrow : ∀ a, (bodyC t).A = some a → 0 < (bodyC t).n → L ≤ a.block := fun a ha hn => by
      obtain ⟨a', e', h1, _⟩ := hw.2 hn
      have e2 : t.A = some a := ha
      rw [e2] at e'; injection e' with e'; subst e'; exact h1
    have := h0.join (ss2 := [bodyC t]) (WrS.one (A := t.A) (n := t.n * 2) (vs := t.xs.flatMap enc2) hw) hL (fun t' ht' a ad ha hn hA' => by
      rw [List.mem_singleton] at ht'; subst ht'
      have := hrow a ha hn; have := hA ad hA'; omega) (fun s hs' t' ht' a b ha hb hn hm => by
      rw [List.mem_singleton] at ht'; subst ht'
      have := hrow b hb hm; have := hR s hs' a ha hn; omega) own3 hk3 hg3 hz3
    show OwnS _ _ _ _ _ _ _ _ _
    rw [List.flatMap_append, List.map_append]
    simpa using this
/-- commands more -/
theorem wp_appCmdsG {ops : Array Oper} {rest : List Oper} {o : Oper} {a : Act} {w : World} {Q : Exit → Act → World → Prop} (hgd : o.guard = none) (s x : Operand)
    (ho : o.op = .call { callee := .builtin .append, args := #[s, x], argTypes := #[25, 25] })
    (B : Nat) (A : Option Addr) (n c : Nat) (ps : List Ct) (hs : a.eval s = .slice A n c) (h0 : OwnCs w B A n c ps)
    (L2 : Nat) (hL : B ≤ L2) (A2 : Option Addr) (n2 c2 : Nat) (js : List Ct) (hx : a.eval x = .slice A2 n2 c2) (h2 : OwnCs w L2 A2 n2 c2 js)
    (hxx : ∀ t ∈ js.map bodyC, ∀ a ad, t.A = some a → 0 < t.n → A = some ad → a.block ≠ ad.block)
    (hyy : ∀ s ∈ ps.map bodyC, ∀ t ∈ js.map bodyC, ∀ a b, s.A = some a → t.A = some b → 0 < s.n → 0 < t.n → a.block ≠ b.block) (hlen : n + n2 ≤ 1000000000) (hBw : B ≤ w.heap.size)
    (h : ∀ A' cap w', OwnCs w' B A' (n + n2) cap (ps ++ js) → Below B w w' → w.heap.size ≤ w'.heap.size → (∀ b, b < w.heap.size → (∀ ad', A = some ad' → ad'.block ≠ b) → w'.heap[b]? = w.heap[b]?) →
      wpList Tryd.prog ops Q rest (a.put o.dst (.slice A' (n + n2) cap)) w') : wpList Tryd.prog ops Q (o :: rest) a w := by
  by_cases hn2 : 0 < n2
  · obtain ⟨hl, hc⟩ := h2.own.wrK.rd
    obtain ⟨ad, rfl, _, hcs⟩ := hc (by omega)
    refine wp_app hgd s x 25 42 (.agg #[.int .i64 0, .int .i64 0, .int .i64 0, .slice none 0 0]) 4 48 ho Tryd.underlying25 info_Command rfl (by omega) B A n c (ps.flatMap hdC) hs h0.own ad n2 c2 (js.flatMap hdC) hx hn2 hl hcs ?_ (by omega) (by omega) hBw ?_
    · intro u hu
      obtain ⟨t, _, ht⟩ := List.mem_flatMap.1 hu
      exact hdC_one t u ht
    · intro g' cap w3 own3 hb3 hk3 hg3 hz3
      refine h (some ⟨g', 0, none⟩) cap w3 ?_ hb3 hz3 hk3
      show OwnS _ _ _ _ _ _ _ _ _
      rw [List.flatMap_append, List.map_append]
      exact h0.join h2.wrs hL hxx hyy own3 hk3 hg3 hz3
  · obtain rfl : n2 = 0 := by omega
    have hjs : js = [] := by
      have h1 := h2.own.len
      rw [Nat.zero_mul, flatX_len hdC 4 hdC_len] at h1
      exact List.length_eq_zero_iff.1 (by omega)
    subst hjs
    refine wp_app0 hgd s x 25 42 (.agg #[.int .i64 0, .int .i64 0, .int .i64 0, .slice none 0 0]) 4 48 ho Tryd.underlying25 info_Command A n c hs h0.own.cap A2 c2 hx ?_
    exact h A c w (by rw [List.append_nil]; exact h0) ⟨rfl, rfl, rfl, Nat.le_refl _, fun _ _ => rfl⟩ (Nat.le_refl _) (fun _ _ _ => rfl)
/-- behind the first append: what keeps the body's rows apart -/
theorem cmds_apart {w : World} {L L2 : Nat} {A A' A2 : Option Addr} {m c2 : Nat} {ps js : List Ct} {t : Ct} (hA : ∀ ad, A = some ad → ad.block < L) (hR : ∀ s ∈ ps.map bodyC, ∀ a, s.A = some a → 0 < s.n → a.block < L)
    (ht : ∀ a, t.A = some a → 0 < t.n * 2 → a.block < L2) (hL : L ≤ L2) (hj : OwnCs w L2 A2 m c2 js) (hA' : A' = A ∨ A' = some ⟨w.heap.size, 0, none⟩) :
    (∀ t ∈ js.map bodyC, ∀ a ad, t.A = some a → 0 < t.n → A' = some ad → a.block ≠ ad.block) ∧ (∀ s ∈ (ps ++ [t]).map bodyC, ∀ t ∈ js.map bodyC, ∀ a b, s.A = some a → t.A = some b → 0 < s.n → 0 < t.n → a.block ≠ b.block) := by
  refine ⟨fun u hu a ad ha hn hd => ?_, fun s hs u hu a b ha hb hn hm => ?_⟩
  · have h1 := hj.bndS u hu a ha hn
    rcases hA' with rfl | rfl
    · have := hA ad hd; omega
    · injection hd with hd; subst hd; show a.block ≠ w.heap.size; omega
  · have h1 := hj.bndS u hu b hb hm
    rw [List.map_append, List.mem_append] at hs
    rcases hs with hs | hs
    · have := hR s hs a ha hn; omega
    · rw [List.map_singleton, List.mem_singleton] at hs; subst hs
      have := ht a ha hn; omega
end Go.Proofs.YtkchgjegdmcnaaaDoor
