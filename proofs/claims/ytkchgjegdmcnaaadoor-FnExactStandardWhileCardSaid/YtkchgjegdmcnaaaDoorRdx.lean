/-
  Lists of pairs that are read; lists of such lists that grow by append. Nothing of the program.
-/
import Derived.Test.YtkchgjegdmcnaaaDoorC12a
import Derived.Test.YtkchgjegdmcnaaaDoorConcat
namespace Go.Proofs.YtkchgjegdmcnaaaDoor
open Go.RowKit

theorem add_zero' (ad : Addr) : ad.add 0 = ad := by unfold Addr.add; simp
theorem Rd2.first {w : World} {A : Option Addr} {n : Nat} {x : Int × Int} {l : List (Int × Int)} (h : Rd2 w A n (x :: l)) : ∃ ad, A = some ad ∧ ad.block < w.heap.size ∧ w.cell? ad = some (i64 x.1) ∧ w.cell? ⟨ad.block, ad.off + 1, none⟩ = some (i64 x.2) := by
  have hl := h.len
  obtain ⟨ad, y, e, hb, hy, h0, h1⟩ := h.at_ (k := 0) (by rw [← hl]; simp)
  simp at hy
  subst hy
  rw [show 0 * 2 = 0 from rfl, add_zero'] at h0 h1
  exact ⟨ad, e, hb, h0, h1⟩
theorem Rd2.behind {w : World} {ad : Addr} {n : Nat} {x : Int × Int} {l : List (Int × Int)} (h : Rd2 w (some ad) n (x :: l)) : Rd2 w (some ⟨ad.block, ad.off + 2, none⟩) (n - 1) l := by
  have hl := h.len
  simp at hl
  have := h.part 1 (n - 1) (by omega)
  rw [List.drop_succ_cons, List.drop_zero, List.take_of_length_le (by omega), show ad.add (1 * 2) = ⟨ad.block, ad.off + 2, none⟩ from by unfold Addr.add; simp] at this
  exact this
theorem rd_newE {w : World} {t : TypeId} {m : Nat} (xs : List (Int × Int)) (cs : Array Value) (h : cs.toList = xs.flatMap enc2) (hm : xs.length = m) : Rd2 (w.alloc (.cells cs t)) (some ⟨w.heap.size, 0, none⟩) m xs := by
  have hs : cs.size = m * 2 := by rw [← Array.length_toList, h, flatX_len enc2 2 enc2_len, hm]
  exact (Blk.new w t cs).rd (by rw [h]; exact List.take_of_length_le (by rw [← h, Array.length_toList, hs]; exact Nat.le_refl _)) (by omega)
/-- a list of slices that grows by append; its slices' rows, and another row (G), are only read, and lie apart from its own block -/
structure OwnP (w : World) (B : Nat) (e : TypeId) (P : Option Addr) (k pc : Nat) (rs : List ItV) (G : Option Addr) (m : Nat) (gv : List Value) : Prop where
  own : Own w B e 1 P k pc (rs.map hdV)
  rows : ∀ t ∈ rs, Rd w t.A (t.n * 2) t.vs
  ne : ∀ t ∈ rs, ∀ a p, t.A = some a → P = some p → 0 < t.n → a.block ≠ p.block
  new : ∀ t ∈ rs, ∀ a, t.A = some a → B ≤ a.block
  gr : Rd w G m gv
  gne : ∀ a p, G = some a → P = some p → 0 < m → a.block ≠ p.block
theorem Rd.at_block {w w' : World} {A : Option Addr} {n : Nat} {vs : List Value} (h : Rd w A n vs) (hk : ∀ a, A = some a → 0 < n → w'.heap[a.block]? = w.heap[a.block]?) (hs : w.heap.size ≤ w'.heap.size) : Rd w' A n vs :=
  ⟨h.1, fun hn => by
    obtain ⟨ad, e, hlt, hc⟩ := h.2 hn
    exact ⟨ad, e, Nat.lt_of_lt_of_le hlt hs, fun j u hu => (World.cell?_of_block (a := ad.add j) (by rw [block_add]; exact hk ad e hn)).trans (hc j u hu)⟩⟩
section
variable {w w' : World} {B : Nat} {e : TypeId} {P : Option Addr} {k pc : Nat} {rs : List ItV} {G : Option Addr} {m : Nat} {gv : List Value}
theorem OwnP.keep (h : OwnP w B e P k pc rs G m gv) (hb : Below w.heap.size w w') : OwnP w' B e P k pc rs G m gv := ⟨h.own.keep hb, fun t ht => (h.rows t ht).below hb, h.ne, h.new, h.gr.below hb, h.gne⟩
theorem OwnP.push {w0 w1 : World} {g' cap k' : Nat} {t : ItV} (h : OwnP w0 B e P k pc rs G m gv) (hB : B ≤ w0.heap.size) (hb : Below w0.heap.size w0 w1) (hs : Rd w1 t.A (t.n * 2) t.vs) (hn : ∀ a, t.A = some a → w0.heap.size ≤ a.block)
    (hown : Own w' B e 1 (some ⟨g', 0, none⟩) k' cap (rs.map hdV ++ [hdV t])) (hk : ∀ b, b < w1.heap.size → (∀ ad', P = some ad' → ad'.block ≠ b) → w'.heap[b]? = w1.heap[b]?) (hg : P = some ⟨g', 0, none⟩ ∨ g' = w1.heap.size) (hz : w1.heap.size ≤ w'.heap.size) :
    OwnP w' B e (some ⟨g', 0, none⟩) k' cap (rs ++ [t]) G m gv := by
  have h1 := h.keep hb
  have hz1 := hb.size
  have hP : ∀ ad', P = some ad' → ad'.block < w0.heap.size := fun ad' e => (h.own.block e).2.1
  refine ⟨by rw [List.map_append, List.map_singleton]; exact hown, fun u hu => ?_, fun u hu a p ha hp hm => ?_, fun u hu a ha => ?_, ?_, fun a p ha hp hm => ?_⟩
  · rcases List.mem_append.1 hu with hu | hu
    · exact (h1.rows u hu).at_block (fun a ha hm => hk _ ((h1.rows u hu).blocks a hm ha) fun ad' hA => (h.ne u hu a ad' ha hA (by omega)).symm) hz
    · rw [List.mem_singleton] at hu; subst hu
      exact hs.at_block (fun a ha hm => hk _ (hs.blocks a hm ha) fun ad' hA => by have := hP ad' hA; have := hn a ha; omega) hz
  · injection hp with hp; subst hp
    show a.block ≠ g'
    rcases List.mem_append.1 hu with hu | hu
    · rcases hg with hg | hg
      · exact h.ne u hu a _ ha hg hm
      · have := (h1.rows u hu).blocks a (by omega) ha; omega
    · rw [List.mem_singleton] at hu; subst hu
      rcases hg with hg | hg
      · have := hP _ hg; have := hn a ha; simp only at *; omega
      · have := hs.blocks a (by omega) ha; omega
  · rcases List.mem_append.1 hu with hu | hu
    · exact h.new u hu a ha
    · rw [List.mem_singleton] at hu; subst hu
      exact Nat.le_trans hB (hn a ha)
  · exact h1.gr.at_block (fun a ha hm => hk _ (h1.gr.blocks a hm ha) fun ad' hA => (h.gne a ad' ha hA hm).symm) hz
  · injection hp with hp; subst hp
    show a.block ≠ g'
    rcases hg with hg | hg
    · exact h.gne a _ ha hg hm
    · have := h1.gr.blocks a hm ha; omega
theorem OwnP.push2 {w0 w1 : World} {g' cap k' : Nat} {t : ItV} (h : OwnP w0 B e P k pc rs G m gv) (hb : Below w0.heap.size w0 w1) (hs : Rd w1 t.A (t.n * 2) t.vs) (hnew : ∀ a, t.A = some a → B ≤ a.block) (hne : ∀ a p, t.A = some a → P = some p → 0 < t.n → a.block ≠ p.block)
    (hown : Own w' B e 1 (some ⟨g', 0, none⟩) k' cap (rs.map hdV ++ [hdV t])) (hk : ∀ b, b < w1.heap.size → (∀ ad', P = some ad' → ad'.block ≠ b) → w'.heap[b]? = w1.heap[b]?) (hg : P = some ⟨g', 0, none⟩ ∨ g' = w1.heap.size) (hz : w1.heap.size ≤ w'.heap.size) :
    OwnP w' B e (some ⟨g', 0, none⟩) k' cap (rs ++ [t]) G m gv := by
  have h1 := h.keep hb
  refine ⟨by rw [List.map_append, List.map_singleton]; exact hown, fun u hu => ?_, fun u hu a p ha hp hm => ?_, fun u hu a ha => ?_, ?_, fun a p ha hp hm => ?_⟩
  · rcases List.mem_append.1 hu with hu | hu
    · exact (h1.rows u hu).at_block (fun a ha hm => hk _ ((h1.rows u hu).blocks a hm ha) fun ad' hA => (h.ne u hu a ad' ha hA (by omega)).symm) hz
    · rw [List.mem_singleton] at hu; subst hu
      exact hs.at_block (fun a ha hm => hk _ (hs.blocks a hm ha) fun ad' hA => (hne a ad' ha hA (by omega)).symm) hz
  · injection hp with hp; subst hp
    show a.block ≠ g'
    rcases List.mem_append.1 hu with hu | hu
    · rcases hg with hg | hg
      · exact h.ne u hu a _ ha hg hm
      · have := (h1.rows u hu).blocks a (by omega) ha; omega
    · rw [List.mem_singleton] at hu; subst hu
      rcases hg with hg | hg
      · exact hne a _ ha hg hm
      · have := hs.blocks a (by omega) ha; omega
  · rcases List.mem_append.1 hu with hu | hu
    · exact h.new u hu a ha
    · rw [List.mem_singleton] at hu; subst hu; exact hnew a ha
  · exact h1.gr.at_block (fun a ha hm => hk _ (h1.gr.blocks a hm ha) fun ad' hA => (h.gne a ad' ha hA hm).symm) hz
  · injection hp with hp; subst hp
    show a.block ≠ g'
    rcases hg with hg | hg
    · exact h.gne a _ ha hg hm
    · have := h1.gr.blocks a hm ha; omega
end
/-- no other row beside -/
theorem OwnP.nil {w : World} {B : Nat} {e : TypeId} {P : Option Addr} {pc : Nat} (h : Own w B e 1 P 0 pc []) : OwnP w B e P 0 pc [] none 0 [] :=
  ⟨h, (fun t ht => by cases ht), (fun t ht => by cases ht), (fun t ht => by cases ht), Rd.nil, (fun a p ha => by cases ha)⟩
theorem OwnP.rdV {w : World} {B : Nat} {e : TypeId} {P : Option Addr} {k pc : Nat} {rs : List ItV} {G : Option Addr} {m : Nat} {gv : List Value} (h : OwnP w B e P k pc rs G m gv) (ho : ∀ t ∈ rs, ∀ u ∈ t.vs, u.oneCell' = true) : RdV w 2 P k rs := ⟨h.own.wr.rd, h.rows, ho⟩
theorem info_sE : (Tryd.prog.info? 40).map (fun i => (i.zero, i.size, i.bytes)) = some (some (.slice none 0 0), 1, 24) := by kernel_rfl
end Go.Proofs.YtkchgjegdmcnaaaDoor
