/-
  A slice of slices of numbers put into order by the library's sort: how it reads behind the call.
-/
import Derived.Test.YtmmgejnhfpfmnaaSegII
import Derived.Test.YtmmgejnhfpfmnaaOwnS
import Derived.Test.YtmmgejnhfpfmnaaP28s
import Derived.Test.YtmmgejnhfpfmnaaShelf
namespace Go.Proofs.Ytmmgejnhfpfmnaa
open Go.RowKit Go.Sort

section
variable {α : Type} [Inhabited α] {enc : α → Value} {w : World} {g m : Nat} {d d0 : Array α} {os : Array Obj}
theorem sortW_size : w.heap.size ≤ (sortWorld enc w g 0 m d os).heap.size := by
  simp [sortWorld]
theorem sortW_block {k : Nat} (hk : k < w.heap.size) (hne : k ≠ g) : (sortWorld enc w g 0 m d os).heap[k]? = w.heap[k]? := by
  unfold sortWorld
  rw [heap_grow_old _ _ (by simpa using hk)]
  simp [putRow, mapBlock, Sort.ahead, Array.getElem?_modify, Ne.symm hne]
theorem sortW_below {B : Nat} (hg : g < w.heap.size) (hB : B ≤ g) : RowKit.Below B w (sortWorld enc w g 0 m d os) :=
  ⟨rfl, rfl, rfl, sortW_size, fun k hk => sortW_block (by omega) (by omega)⟩
theorem sortW_at (hg : g < w.heap.size) (hH : Holds enc w g 0 d0) (hs : d.size = d0.size) {j : Nat} (hj : j < d.size) :
    (sortWorld enc w g 0 m d os).cell? ⟨g, j, none⟩ = some (enc d[j]!) ∧ (sortWorld enc w g 0 m d os).frozen? ⟨g, j, none⟩ = false := by
  unfold sortWorld
  rw [cell?_grow _ _ _ (by simpa using hg), frozen?_grow _ _ _ (by simpa using hg), frozen?_putRow]
  have hH' : Holds enc (Sort.ahead w m) g 0 d0 := hH
  have h1 := cell?_putRow enc (Sort.ahead w m) g 0 d0 d hH' hs j hj
  have h2 := (hH' j (by omega)).2
  rw [Nat.zero_add] at h1 h2
  exact ⟨h1, h2⟩
end
theorem apart_symm {s t : Seg} (h : apart s t) : apart t s := fun a b ha hb hn hm e => h b a hb ha hm hn e.symm
theorem WrS.sorted {α : Type} [Inhabited α] {enc : α → Value} {w : World} {lo hi g n m : Nat} {d d0 : Array α} {os : Array Obj} {its its' : List It} (h : WrS w lo hi (sgII (some ⟨g, 0, none⟩) n its)) (hn : 0 < n)
    (hH : Holds enc w g 0 d0) (hs : d.size = d0.size) (hd : d.toList.map enc = its'.map hdI) (hp : its'.Perm its) : WrS (sortWorld enc w g 0 m d os) lo hi (sgII (some ⟨g, 0, none⟩) n its') := by
  have hl := RdII.len h.rd
  have hl' := hp.length_eq
  obtain ⟨ad, e, h1, h2, h3, _⟩ := h.head.2 hn
  injection e with e; subst e
  simp only at h1 h2 h3
  have hap := List.pairwise_cons.1 h.apart
  have hpb : (its'.map bodyI).Perm (its.map bodyI) := hp.map _
  refine ⟨fun s hs' => ?_, List.pairwise_cons.2 ⟨fun t ht => ?_, ?_⟩⟩
  · rcases List.mem_cons.1 hs' with rfl | hs'
    · refine ⟨by simp only [List.length_map]; omega, fun _ => ⟨_, rfl, h1, h2, Nat.lt_of_lt_of_le h3 sortW_size, fun j v hj => ?_⟩⟩
      simp only at hj
      rw [← hd, List.getElem?_map] at hj
      obtain ⟨x, hx, rfl⟩ := Option.map_eq_some_iff.1 hj
      obtain ⟨hjl, ex⟩ := List.getElem?_eq_some_iff.1 hx
      have hjd : j < d.size := by simpa using hjl
      rw [head_add]
      have := sortW_at (m := m) (os := os) h3 hH hs hjd
      rw [getElem!_pos d j hjd] at this
      have e2 : d[j] = x := by rw [← ex]; simp
      rw [e2] at this; exact this
    · have hso := hpb.mem_iff.1 hs'
      refine (h.each s (by simp [sgII, hso])).move (fun a hn' ha => sortW_block ?_ ?_) sortW_size (Nat.le_refl _)
      · obtain ⟨a', e', _, _, g3, _⟩ := (h.each s (by simp [sgII, hso])).2 hn'
        rw [ha] at e'; injection e' with e'; subst e'; exact g3
      · exact fun e => hap.1 s hso ⟨g, 0, none⟩ a rfl ha hn hn' e.symm
  · exact fun a b ha hb hn1 hn2 => hap.1 t (hpb.mem_iff.1 ht) a b ha hb hn1 hn2
  · exact (hpb.pairwise_iff apart_symm).2 hap.2
set_option maxHeartbeats 1000000 in
theorem sortLists_c (lo hi g n c : Nat) (its : List It) (w : World) (h : WrS w lo hi (sgII (some ⟨g, 0, none⟩) n its)) (hn : 0 < n) (hn' : n ≤ 1000000000) (hi' : ∀ t ∈ its, t.n ≤ 1000000000) (hnd : (its.map It.xs).Nodup) :
    Calls Try.prog 63 #[.slice (some ⟨g, 0, none⟩) n c, .func (.func 64) #[] #[]] w fun e w' => e = .returned (.tuple #[]) ∧
      ∃ its' : List It, its'.Perm its ∧ its'.map It.xs = (its.map It.xs).mergeSort leL ∧ WrS w' lo hi (sgII (some ⟨g, 0, none⟩) n its') ∧ (∀ B, B ≤ g → RowKit.Below B w w') := by
  have hlen := RdII.len h.rd
  obtain ⟨ad, e, h1, h2, h3, hc0⟩ := h.head.2 hn
  injection e with e; subst e
  simp only at h1 h2 h3
  have hap := (List.pairwise_cons.1 h.apart).1
  obtain ⟨t0, ht0⟩ : ∃ t0, t0 ∈ its := List.exists_mem_of_length_pos (by omega)
  have inh : Inhabited { t : It // t ∈ its } := ⟨⟨t0, ht0⟩⟩
  have hsz : its.attach.toArray.size = n := by simp [hlen]
  have hH : Holds (fun t : { t : It // t ∈ its } => hdI t.1) w g 0 its.attach.toArray := by
    intro j hj
    have hjl : j < its.length := by simpa using hj
    have := hc0 j (hdI its[j]) (by simp [hjl])
    rw [head_add] at this
    rw [Nat.zero_add, getElem!_pos _ j hj]
    simpa using this
  have hO : SWO (ltOf fun x y : { t : It // t ∈ its } => cmpL x.1.xs y.1.xs) := ⟨fun x => swoL.irrefl x.1.xs, fun x y z => swoL.trans x.1.xs y.1.xs z.1.xs, fun x y z => swoL.ntrans x.1.xs y.1.xs z.1.xs⟩
  have hT : ∀ x y : { t : It // t ∈ its }, (ltOf fun x y : { t : It // t ∈ its } => cmpL x.1.xs y.1.xs) x y = false → (ltOf fun x y : { t : It // t ∈ its } => cmpL x.1.xs y.1.xs) y x = false → x = y := by
    intro x y a b
    have e : x.1.xs = y.1.xs := totalL x.1.xs y.1.xs a b
    obtain ⟨i, hi1⟩ := List.mem_iff_getElem?.1 x.2
    obtain ⟨j, hj1⟩ := List.mem_iff_getElem?.1 y.2
    obtain ⟨hi2, ei⟩ := List.getElem?_eq_some_iff.1 hi1
    obtain ⟨hj2, ej⟩ := List.getElem?_eq_some_iff.1 hj1
    have hij : i = j := (List.getElem_inj (xs := its.map It.xs) (h₀ := by simpa using hi2) (h₁ := by simpa using hj2) hnd).1 (by simp [ei, ej, e])
    subst hij
    exact Subtype.ext (ei.symm.trans ej)
  have hcmp : CmpLays1 Try.prog 64 #[] (fun t : { t : It // t ∈ its } => hdI t.1) (fun x y => cmpL x.1.xs y.1.xs) g 0 its.attach.toArray.size w := by
    intro m os dk hs x y
    have hrd : ∀ x : { t : It // t ∈ its }, RdI (sortWorld (fun t : { t : It // t ∈ its } => hdI t.1) w g 0 m dk os) x.1.A x.1.n x.1.xs := by
      intro x
      have hm : bodyI x.1 ∈ its.map bodyI := List.mem_map_of_mem x.2
      refine ((h.each (bodyI x.1) (by simp [sgII, hm])).move (fun a hn' ha => sortW_block ?_ ?_) sortW_size (Nat.le_refl _)).rd
      · obtain ⟨a', e', _, _, g3, _⟩ := (h.each (bodyI x.1) (by simp [sgII, hm])).2 hn'
        rw [ha] at e'; injection e' with e'; subst e'; exact g3
      · exact fun e => hap _ hm ⟨g, 0, none⟩ a rfl ha hn hn' e.symm
    exact (compareI_c x.1.A y.1.A x.1.n y.1.n x.1.c y.1.c x.1.xs y.1.xs _ (hrd x) (hrd y) (hi' _ x.2) (hi' _ y.2)).mono fun e w' ⟨he, hw⟩ => ⟨he, 0, #[], by rw [← hw, grow_empty]; rfl⟩
  have hc := Try.slices_SortFunc_total (α := { t : It // t ∈ its }) (fun t => hdI t.1) (fun _ => rfl) (fun x y => cmpL x.1.xs y.1.xs) hO 64 #[] g 0 c its.attach.toArray w (enters_of Try.func64 (by kernel_rfl) rfl) hcmp hH h3 (by omega) hT
  rw [hsz] at hc
  refine hc.mono fun e w' ⟨he, m, os, hw⟩ => ⟨he, (its.attach.mergeSort fun x y => leL x.1.xs y.1.xs).map Subtype.val, ?_, ?_, ?_, fun B hB => ?_⟩
  · have := (List.mergeSort_perm its.attach fun x y => leL x.1.xs y.1.xs).map Subtype.val
    rwa [List.attach_map_subtype_val] at this
  · rw [List.map_map]
    have := List.map_mergeSort (r := fun x y : { t : It // t ∈ its } => leL x.1.xs y.1.xs) (s := leL) (f := It.xs ∘ Subtype.val) (l := its.attach) (fun a _ b _ => rfl)
    rw [this, ← List.map_map, List.attach_map_subtype_val]
  · subst hw
    refine h.sorted hn hH (by simp) (by simp [Function.comp_def, ltOf, leL]) ?_
    have := (List.mergeSort_perm its.attach fun x y => leL x.1.xs y.1.xs).map Subtype.val
    rwa [List.attach_map_subtype_val] at this
  · subst hw; exact sortW_below h3 hB
end Go.Proofs.Ytmmgejnhfpfmnaa
