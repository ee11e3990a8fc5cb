/-
  Contracts of chapter 27 (RepeatsIn): the reference's search.
-/
import Derived.Test.YtmmgejnhfpfmnaaC27s
import Derived.Test.YtmmgejnhfpfmnaaMixV
namespace Go.Proofs.Ytmmgejnhfpfmnaa
open Go.RowKit

/-- a formula tape in memory of the call's own, behind a pointer -/
structure Made (s : Int) (F : Fd) (w w' : World) (g : Nat) (A0 : Option Addr) (n0 c0 : Nat) (its0 : List It) (A1 : Option Addr) (n1 c1 : Nat) (its1 : List It) (A2 : Option Addr) (n2 c2 : Nat) : Prop where
  below : Below w.heap.size w w'
  lo : w.heap.size ≤ g
  blk : Blk w' g 29 #[i64 (formF s F).1, i64 (formF s F).2.1, i64 (formF s F).2.2.1, .slice A0 n0 c0, .slice A1 n1 c1, .slice A2 n2 c2]
  rows : FoR (formF s F) w.heap.size w' A0 n0 its0 A1 n1 its1 A2 n2
  n0 : n0 = F.2.length + 1
  n1 : n1 = F.2.length
  n2 : n2 = F.2.length
theorem WrS.perm {w : World} {lo hi : Nat} {ss tt : List Seg} (h : WrS w lo hi ss) (hp : ss.Perm tt) : WrS w lo hi tt :=
  ⟨fun s hs => h.each s (hp.mem_iff.2 hs), (hp.pairwise_iff (fun h1 a b ha hb hn hm e => h1 b a hb ha hm hn e.symm)).1 h.apart⟩
theorem WrS.byR {w : World} {lo hi F : Nat} (R : Nat → Nat × Nat) (hd : ∀ j k, j < F → k < F → j ≠ k → (R j).2 ≤ (R k).1 ∨ (R k).2 ≤ (R j).1) :
    ∀ l : List (Nat × Seg), (l.map Prod.fst).Nodup → (∀ p ∈ l, p.1 < F ∧ Wr w (R p.1).1 (R p.1).2 p.2.A p.2.n p.2.vs ∧ lo ≤ (R p.1).1 ∧ (R p.1).2 ≤ hi) → WrS w lo hi (l.map Prod.snd)
  | [], _, _ => WrS.nil
  | p :: l, hn, h => by
    rw [List.map_cons, List.nodup_cons] at hn
    have ih := WrS.byR (lo := lo) (hi := hi) R hd l hn.2 fun q hq => h q (by simp [hq])
    obtain ⟨h1, h2, h3, h4⟩ := h p (by simp)
    refine ⟨fun s hs => ?_, List.pairwise_cons.2 ⟨fun s hs a b ha hb hna hnb => ?_, ih.apart⟩⟩
    · rcases List.mem_cons.1 hs with rfl | hs
      · exact h2.wider h3 h4
      · exact ih.each s hs
    · obtain ⟨q, hq, rfl⟩ := List.mem_map.1 hs
      obtain ⟨g1, g2, g3, g4⟩ := h q (by simp [hq])
      have hne : p.1 ≠ q.1 := fun e => hn.1 (by rw [e]; exact List.mem_map_of_mem hq)
      obtain ⟨a', ea, a1, a2, _⟩ := h2.2 hna
      obtain ⟨b', eb, b1, b2, _⟩ := g2.2 hnb
      rw [ha] at ea; injection ea with ea; subst ea
      rw [hb] at eb; injection eb with eb; subst eb
      rcases hd _ _ h1 g1 hne with h5 | h5 <;> omega
theorem made_store {s : Int} {F : Fd} {w w1 : World} {g : Nat} {A0 : Option Addr} {c0 : Nat} {its0 : List It} {A1 : Option Addr} {c1 : Nat} {its1 : List It} {A2 : Option Addr} {c2 : Nat} {u0 u1 u2 : Value}
    (h : WrS w1 w.heap.size w1.heap.size (⟨some ⟨g, 0, none⟩, 6, [i64 0, i64 0, i64 0, .slice none 0 0, .slice none 0 0, .slice none 0 0]⟩ :: (sgII A0 (F.2.length + 1) its0 ++ sgII A1 F.2.length its1 ++ [sgI A2 F.2.length (List.replicate F.2.length 0)])))
    (hz : Blk w1 g 29 #[i64 0, i64 0, i64 0, .slice none 0 0, .slice none 0 0, .slice none 0 0]) (hb : Below w.heap.size w w1) (e0 : its0.map It.xs = F.1) (e1 : its1.map It.xs = F.2) (hl : F.2.length ≤ 100) (hi0 : ∀ t ∈ its0, t.n ≤ 100000) (hi1 : ∀ t ∈ its1, t.n ≤ 100000)
    (hu0 : u0 = i64 (formF s F).1) (hu1 : u1 = i64 (formF s F).2.1) (hu2 : u2 = i64 (formF s F).2.2.1) :
    Made s F w ((((((w1.setCell ⟨g, 0, none⟩ u0).setCell ⟨g, 1, none⟩ u1).setCell ⟨g, 2, none⟩ u2).setCell ⟨g, 3, none⟩ (.slice A0 (F.2.length + 1) c0)).setCell ⟨g, 4, none⟩ (.slice A1 F.2.length c1)).setCell ⟨g, 5, none⟩ (.slice A2 F.2.length c2)) g A0 (F.2.length + 1) c0 its0 A1 F.2.length c1 its1 A2 F.2.length c2 := by
  have hg : w.heap.size ≤ g := by
    obtain ⟨a, e, h1, _⟩ := h.head.2 (by show 0 < 6; omega)
    injection e with e; subst e; exact h1
  refine ⟨below_set6 hb hg, hg, ?_, ⟨⟨fun t ht => ?_, (List.pairwise_cons.1 h.apart).2⟩, e0, e1, by omega, by omega, by omega, hi0, hi1⟩, rfl, rfl, rfl⟩
  · have := (((((hz.set_ 0 u0).set_ 1 u1).set_ 2 u2).set_ 3 (.slice A0 (F.2.length + 1) c0)).set_ 4 (.slice A1 F.2.length c1)).set_ 5 (.slice A2 F.2.length c2)
    subst hu0; subst hu1; subst hu2
    simpa using this
  · have hw := h.tail.each t ht
    refine hw.move (fun ad hn ea => ?_) (by simp) (by simp)
    have hne : g ≠ ad.block := (List.pairwise_cons.1 h.apart).1 t ht ⟨g, 0, none⟩ ad rfl ea (by show 0 < 6; omega) hn
    have hk : ∀ (w : World) (i : Nat) (u : Value), (w.setCell ⟨g, i, none⟩ u).heap[ad.block]? = w.heap[ad.block]? := fun w i u => Below.heap_setCell w _ u _ (fun e => hne e.symm)
    rw [hk, hk, hk, hk, hk, hk]
theorem made_alloc {s : Int} {F : Fd} {w w1 : World} {A0 : Option Addr} {c0 : Nat} {its0 : List It} {A1 : Option Addr} {c1 : Nat} {its1 : List It} {A2 : Option Addr} {c2 : Nat} {u0 u1 u2 : Value}
    (h : WrS w1 w.heap.size w1.heap.size (sgII A0 (F.2.length + 1) its0 ++ sgII A1 F.2.length its1 ++ [sgI A2 F.2.length (List.replicate F.2.length 0)]))
    (hb : Below w.heap.size w w1) (e0 : its0.map It.xs = F.1) (e1 : its1.map It.xs = F.2) (hl : F.2.length ≤ 100) (hi0 : ∀ t ∈ its0, t.n ≤ 100000) (hi1 : ∀ t ∈ its1, t.n ≤ 100000)
    (hu0 : u0 = i64 (formF s F).1) (hu1 : u1 = i64 (formF s F).2.1) (hu2 : u2 = i64 (formF s F).2.2.1) :
    Made s F w (w1.alloc (.cells #[u0, u1, u2, .slice A0 (F.2.length + 1) c0, .slice A1 F.2.length c1, .slice A2 F.2.length c2] 29)) w1.heap.size A0 (F.2.length + 1) c0 its0 A1 F.2.length c1 its1 A2 F.2.length c2 := by
  subst hu0; subst hu1; subst hu2
  exact ⟨below_chain hb hb.size (below_size.alloc (Nat.le_refl _) _), hb.size, Blk.new w1 _ _, ⟨(h.alloc _).wider (Nat.le_refl _) (by simp), e0, e1, by omega, by omega, by omega, hi0, hi1⟩, rfl, rfl, rfl⟩
section
variable {s : Int} {F : Fd} {w wr w2 w3 : World} {g : Nat} {A0 : Option Addr} {n0 c0 : Nat} {its0 : List It} {A1 : Option Addr} {n1 c1 : Nat} {its1 : List It} {A2 : Option Addr} {n2 c2 : Nat}
theorem Made.form (h : Made s F wr w2 g A0 n0 c0 its0 A1 n1 c1 its1 A2 n2 c2) : FormP w2 g (formF s F).1 (formF s F).2.1 (formF s F).2.2.1 A0 (F.2.length + 1) c0 its0 A1 F.2.length c1 its1 A2 n2 c2 (formF s F).2.2.2.2.2 := by
  obtain ⟨_, _, hb, hr, rfl, rfl, rfl⟩ := h
  have h1 := hr.1.rd
  exact ⟨by simpa using hb.cell 0, by simpa using hb.cell 1, by simpa using hb.cell 2, by simpa using hb.cell 3, by simpa using hb.cell 4, by simpa using hb.cell 5, h1.left.left, h1.left.right, h1.right.head⟩
theorem FbOut.good {u0 u1 u2 u3 u4 u5 : Value} (h : Made s F wr w2 g A0 n0 c0 its0 A1 n1 c1 its1 A2 n2 c2) (hb : Below w2.heap.size w2 w3) (hw : Below w.heap.size w wr) (hlt : w.heap.size < wr.heap.size) :
    FbOut s (some F) w (.returned (.tuple #[.agg #[i64 (formF s F).1, i64 (formF s F).2.1, i64 (formF s F).2.2.1, .slice A0 n0 c0, .slice A1 n1 c1, .slice A2 n2 c2], .bool true]))
      ((((((w3.setCell ⟨w.heap.size, 0, none⟩ u0).setCell ⟨w.heap.size, 1, none⟩ u1).setCell ⟨w.heap.size, 2, none⟩ u2).setCell ⟨w.heap.size, 3, none⟩ u3).setCell ⟨w.heap.size, 4, none⟩ u4).setCell ⟨w.heap.size, 5, none⟩ u5) := by
  obtain ⟨hb2, _, _, ⟨h1, h2, h3, h4, h5, h6, h7, h8⟩, _⟩ := h
  refine ⟨_, _, _, A0, n0, c0, its0, A1, n1, c1, its1, A2, n2, c2, rfl, fun F' e => ?_, below_set6 ((hw.trans (hb2.mono (by omega))).trans (hb.mono (by have := hb2.size; omega))) (Nat.le_refl _)⟩
  injection e with e; subst e
  exact ⟨⟨rfl, rfl, rfl⟩, (((h1.below hb).set6 hlt).wider (by omega) (by have := hb.size; simpa using this)), h2, h3, h4, h5, h6, h7, h8⟩
end
section
variable {a b c : List Int} {g k i j f : Nat}
theorem findI_succ : findI a b c g k (f + 1) i = (findJ a b c g k i (a.length - i) i).or (findI a b c g k f (i + 1)) := rfl
theorem findJ_hit (h : fitF b c (cand2 a b g k i j) = true) : findJ a b c g k i (f + 1) j = some (cand2 a b g k i j) := seek_hit (p := fun j => okF b c (cand2 a b g k i j)) (okF_t h)
theorem findJ_miss (h : fitF b c (cand2 a b g k i j) = false) : findJ a b c g k i (f + 1) j = findJ a b c g k i f (j + 1) := seek_miss (p := fun j => okF b c (cand2 a b g k i j)) (okF_f h)
end
set_option maxHeartbeats 8000000 in
set_option maxRecDepth 100000 in
theorem l27Find_c (s : Int) (A B C : Option Addr) (la ca lb cb lc cc : Nat) (a b c : List Int) (g : Nat) (w : World) (ha : RdI w A la a) (hb : RdI w B lb b) (hc : RdI w C lc c) (hla : 0 < la ∧ la ≤ 40) (hg : 1 ≤ g ∧ g ≤ 8) (hlb : lb = la + g) (hlc : lc ≤ 1000000) (hca : la ≤ ca) (hcb : lb ≤ cb) :
    Calls Try.prog 47 #[.int .i64 s, .slice A la ca, .slice B lb cb, .slice C lc cc] w (FbOut s (findF a b c g) w) := by
  have HLA := Lib.hid ha.len; have HLB := Lib.hid hb.len
  obtain ⟨ada, rfl, haba, hcsa⟩ := ha.2 (by omega)
  obtain ⟨adb, rfl, habb, hcsb⟩ := hb.2 (by omega)
  have HA := Lib.hid ha; have HB := Lib.hid hb; have HC := Lib.hid hc
  clear ha hb hc hcsa hcsb
  subst hlb
  have vg : IntKind.i64.wrap (((la + g : Nat) : Int) - (la : Int)) = (g : Int) := (IntWalk.i64_in _ (by omega)).trans (by omega)
  obtain ⟨o, ho⟩ : ∃ o, findF a b c g = o := ⟨_, rfl⟩
  rw [ho]
  have HO := Lib.hid ho
  clear ho
  have r0 := Blk.new w 29 #[i64 0, i64 0, i64 0, .slice none 0 0, .slice none 0 0, .slice none 0 0]
  have R0 := Lib.hid r0
  clear r0
  go_enter Try.func47, Try.ntmps47
  go_wp2_with fail
  rw [show ((la : Int) + (g : Int) - (la : Int)) = (g : Int) by omega]
  go_loopw [9, 11] (fun bv jv wr => ∃ j : Nat, j ≤ la ∧ bv = .bool false ∧ jv = .int .i64 j ∧ Hid ((find1 a b c g (la - j) j).or (findK a b c g (g - 1) 1) = o) ∧ Blk wr w.heap.size 29 #[i64 0, i64 0, i64 0, .slice none 0 0, .slice none 0 0, .slice none 0 0] ∧ Below w.heap.size w wr) (fun _ jv _ => la - (intOf jv).toNat)
  case atStart => exact ⟨0, by omega, rfl, rfl, by unfold Hid; rw [← HO.out, findF, HLA.out]; rfl, R0.out, below_size.alloc (Nat.le_refl _) _⟩
  case round =>
    obtain ⟨j, hj, rfl, rfl, hof, hR, hbw⟩ := hrel
    have HR := Lib.hid hR; have HBW := Lib.hid hbw
    by_cases hlt : j < la
    · have vjg : IntKind.i64.wrap ((j : Int) + (g : Int)) = ((j + g : Nat) : Int) := (IntWalk.i64_in _ (by omega)).trans (by omega)
      clear hR hbw
      go_wp2_with fail
      have EW : ∀ w1, Below wr.drew.heap.size wr.drew w1 → Below w.heap.size w w1 := fun w1 hb => below_chain HBW.out HBW.out.size (below_of_drew hb)
      refine MixA.wp_facts 20 [30, 31, 32, 33, 34, 35, 36, 37, 38, 39, 40, 41, 42, 43, 44, 45, 46, 47, 48, 12] [[], [], [], [1, 2], [3], [], [], [5, 6], [7], [4, 8], [], [], [], [], [12, 13], [10, 11, 14], [15], [16], [0, 9, 17, 4, 8], []]
        [MixA.fP (.int .i64 s),
         MixA.fP (.slice (some ada) la ca),
         MixA.fP (.int .i64 j),
         MixA.fP (.slice (some ada) j ca),
         MixA.fO j (a.take j),
         MixA.fP (.slice (some ada) la ca),
         MixA.fP (.int .i64 j),
         MixA.fP (.slice (some (ada.add j)) (la - j) (ca - j)),
         MixA.fO (la - j) (a.drop j),
         MixA.fR 25 2,
         MixA.fP (.slice (some adb) (la + g) cb),
         MixA.fP (.int .i64 j),
         MixA.fP (.int .i64 j),
         MixA.fP (.int .i64 g),
         MixA.fP (.int .i64 ((j : Int) + (g : Int))),
         MixA.fP (.slice (some (adb.add j)) g (cb - j)),
         MixA.fO g ((b.drop j).take g),
         MixA.fR 25 1,
         (fun l v lo hi w' => ∃ g2, v = .agg #[.int .i64 s, .int .i64 1, .int .i64 ((la - j : Nat) - 1), l.getD 1 undef, l.getD 2 undef, .slice (some ⟨g2, 0, none⟩) 1 1] ∧ Wr w' lo hi (some ⟨g2, 0, none⟩) 1 ([(0 : Int)].map i64)),
         MixA.fB 29 #[i64 0, i64 0, i64 0, .slice none 0 0, .slice none 0 0, .slice none 0 0]]
        (by kernel_rfl) (by kernel_rfl) (fun t ht => Nat.lt_of_lt_of_eq (show t < 119 by revert t; decide) rfl) ?_ ?_
      · intro f hf
        simp only [List.mem_cons, List.not_mem_nil, or_false] at hf
        rcases hf with rfl | rfl | rfl | rfl | rfl | rfl | rfl | rfl | rfl | rfl | rfl | rfl | rfl | rfl | rfl | rfl | rfl | rfl | rfl | rfl
        · exact MixA.fP_st _
        · exact MixA.fP_st _
        · exact MixA.fP_st _
        · exact MixA.fP_st _
        · exact MixA.fO_st _ _
        · exact MixA.fP_st _
        · exact MixA.fP_st _
        · exact MixA.fP_st _
        · exact MixA.fO_st _ _
        · exact MixA.fR_st _ _
        · exact MixA.fP_st _
        · exact MixA.fP_st _
        · exact MixA.fP_st _
        · exact MixA.fP_st _
        · exact MixA.fP_st _
        · exact MixA.fP_st _
        · exact MixA.fO_st _ _
        · exact MixA.fR_st _ _
        · exact (fun _ _ _ _ _ _ hb h => by obtain ⟨g2, e, h2⟩ := h; exact ⟨g2, e, h2.below hb⟩)
        · exact MixA.fB_st _ _
      simp only [MixA.EachF]
      refine ⟨?_, ?_, ?_, ?_, ?_, ?_, ?_, ?_, ?_, ?_, ?_, ?_, ?_, ?_, ?_, ?_, ?_, ?_, ?_, ?_, ?_⟩
      · intro a1 w1 hf
        refine MixA.hop ⟨#[(.int .i64 s), undef, undef, undef, undef, undef, undef, undef, undef, undef, undef, undef, undef, undef, undef, undef, undef, undef, undef, undef, undef, undef, undef, undef, undef, undef, undef, undef, undef, undef, undef], []⟩ (by intro cs b e; cases e) rfl (show 30 < 31 by decide) ?_ ?_
        · intro x hx
          simp [Op.operands] at hx
          rcases hx with rfl
          · exact (hf.was (t := 0) (by decide) rfl).trans rfl
        go_wp2_with fail
        first | exact ⟨below_size, rfl⟩ | exact ⟨_, rfl, below_size, rfl⟩
      · intro a1 w1 hf
        refine MixA.hop ⟨#[undef, (.slice (some ada) la ca), undef, undef, undef, undef, undef, undef, undef, undef, undef, undef, undef, undef, undef, undef, undef, undef, undef, undef, undef, undef, undef, undef, undef, undef, undef, undef, undef, undef, undef, undef], []⟩ (by intro cs b e; cases e) rfl (show 31 < 32 by decide) ?_ ?_
        · intro x hx
          simp [Op.operands] at hx
          rcases hx with rfl
          · exact (hf.was (t := 1) (by decide) rfl).trans rfl
        go_wp2_with fail
        first | exact ⟨below_size, rfl⟩ | exact ⟨_, rfl, below_size, rfl⟩
      · intro a1 w1 hf
        refine MixA.hop ⟨#[undef, undef, undef, undef, undef, undef, undef, undef, undef, undef, undef, (.int .i64 j), undef, undef, undef, undef, undef, undef, undef, undef, undef, undef, undef, undef, undef, undef, undef, undef, undef, undef, undef, undef, undef], []⟩ (by intro cs b e; cases e) rfl (show 32 < 33 by decide) ?_ ?_
        · intro x hx
          simp [Op.operands] at hx
          rcases hx with rfl
          · exact (hf.was (t := 11) (by decide) rfl).trans rfl
        go_wp2_with fail
        first | exact ⟨below_size, rfl⟩ | exact ⟨_, rfl, below_size, rfl⟩
      · intro a1 w1 hf
        refine MixA.hop ⟨#[undef, undef, undef, undef, undef, undef, undef, undef, undef, undef, undef, undef, undef, undef, undef, undef, undef, undef, undef, undef, undef, undef, undef, undef, undef, undef, undef, undef, undef, undef, undef, (.slice (some ada) la ca), (.int .i64 j), undef], []⟩ (by intro cs b e; cases e) rfl (show 33 < 34 by decide) ?_ ?_
        · intro x hx
          simp [Op.operands] at hx
          rcases hx with rfl | rfl
          · exact (hf.pure (j := 1) (by decide) rfl).trans rfl
          · exact (hf.pure (j := 2) (by decide) rfl).trans rfl
        go_wp2_with fail
        first | exact ⟨below_size, rfl⟩ | exact ⟨_, rfl, below_size, rfl⟩
      · intro a1 w1 hf
        have E1 := EW w1 hf.below
        refine MixA.hop ⟨#[undef, undef, undef, undef, undef, undef, undef, undef, undef, undef, undef, undef, undef, undef, undef, undef, undef, undef, undef, undef, undef, undef, undef, undef, undef, undef, undef, undef, undef, undef, undef, undef, undef, (.slice (some ada) j ca), undef], []⟩ (by intro cs b e; cases e) rfl (show 34 < 35 by decide) ?_ ?_
        · intro x hx
          simp [Op.operands, Call.operands] at hx
          rcases hx with rfl | rfl
          · rfl
          · exact (hf.pure (j := 3) (by decide) rfl).trans rfl
        go_wp2_with fail
        refine (l00OwnX_c _ _ _ _ _ (by exact RdI.below (HA.out.take (by omega)) E1) (by omega)).mono ?_
        rintro e w2 ⟨A2, cap2, rfl, hw2, hb2⟩
        have W2 := Lib.hid hw2; have B2 := Lib.hid hb2
        clear hw2 hb2
        go_wp2_with fail
        exact ⟨B2.out, A2, cap2, rfl, by have := W2.out.wrK; rwa [Nat.mul_one] at this⟩
      · intro a1 w1 hf
        refine MixA.hop ⟨#[undef, (.slice (some ada) la ca), undef, undef, undef, undef, undef, undef, undef, undef, undef, undef, undef, undef, undef, undef, undef, undef, undef, undef, undef, undef, undef, undef, undef, undef, undef, undef, undef, undef, undef, undef, undef, undef, undef, undef], []⟩ (by intro cs b e; cases e) rfl (show 35 < 36 by decide) ?_ ?_
        · intro x hx
          simp [Op.operands] at hx
          rcases hx with rfl
          · exact (hf.was (t := 1) (by decide) rfl).trans rfl
        go_wp2_with fail
        first | exact ⟨below_size, rfl⟩ | exact ⟨_, rfl, below_size, rfl⟩
      · intro a1 w1 hf
        refine MixA.hop ⟨#[undef, undef, undef, undef, undef, undef, undef, undef, undef, undef, undef, (.int .i64 j), undef, undef, undef, undef, undef, undef, undef, undef, undef, undef, undef, undef, undef, undef, undef, undef, undef, undef, undef, undef, undef, undef, undef, undef, undef], []⟩ (by intro cs b e; cases e) rfl (show 36 < 37 by decide) ?_ ?_
        · intro x hx
          simp [Op.operands] at hx
          rcases hx with rfl
          · exact (hf.was (t := 11) (by decide) rfl).trans rfl
        go_wp2_with fail
        first | exact ⟨below_size, rfl⟩ | exact ⟨_, rfl, below_size, rfl⟩
      · intro a1 w1 hf
        refine MixA.hop ⟨#[undef, undef, undef, undef, undef, undef, undef, undef, undef, undef, undef, undef, undef, undef, undef, undef, undef, undef, undef, undef, undef, undef, undef, undef, undef, undef, undef, undef, undef, undef, undef, undef, undef, undef, undef, (.slice (some ada) la ca), (.int .i64 j), undef], []⟩ (by intro cs b e; cases e) rfl (show 37 < 38 by decide) ?_ ?_
        · intro x hx
          simp [Op.operands] at hx
          rcases hx with rfl | rfl
          · exact (hf.pure (j := 5) (by decide) rfl).trans rfl
          · exact (hf.pure (j := 6) (by decide) rfl).trans rfl
        go_wp2_with fail
        first | exact ⟨below_size, rfl⟩ | exact ⟨_, rfl, below_size, rfl⟩
      · intro a1 w1 hf
        have E1 := EW w1 hf.below
        refine MixA.hop ⟨#[undef, undef, undef, undef, undef, undef, undef, undef, undef, undef, undef, undef, undef, undef, undef, undef, undef, undef, undef, undef, undef, undef, undef, undef, undef, undef, undef, undef, undef, undef, undef, undef, undef, undef, undef, undef, undef, (.slice (some (ada.add j)) (la - j) (ca - j)), undef], []⟩ (by intro cs b e; cases e) rfl (show 38 < 39 by decide) ?_ ?_
        · intro x hx
          simp [Op.operands, Call.operands] at hx
          rcases hx with rfl | rfl
          · rfl
          · exact (hf.pure (j := 7) (by decide) rfl).trans rfl
        go_wp2_with fail
        refine (l00OwnX_c _ _ _ _ _ (by exact RdI.below (HA.out.drop (by omega)) E1) (by omega)).mono ?_
        rintro e w2 ⟨A2, cap2, rfl, hw2, hb2⟩
        have W2 := Lib.hid hw2; have B2 := Lib.hid hb2
        clear hw2 hb2
        go_wp2_with fail
        exact ⟨B2.out, A2, cap2, rfl, by have := W2.out.wrK; rwa [Nat.mul_one] at this⟩
      · intro a1 w1 hf
        obtain ⟨R, hR, _⟩ := hf.facts
        obtain ⟨A34, c34, hv34, _⟩ : ∃ A c, MixA.val a1 34 = .slice A j c ∧ Wr w1 (R 4).1 (R 4).2 A j (((a.take j)).map i64) := (hR 4 (by decide)).1
        obtain ⟨A38, c38, hv38, _⟩ : ∃ A c, MixA.val a1 38 = .slice A (la - j) c ∧ Wr w1 (R 8).1 (R 8).2 A (la - j) (((a.drop j)).map i64) := (hR 8 (by decide)).1
        clear hR
        refine MixA.hop ⟨#[undef, undef, undef, undef, undef, undef, undef, undef, undef, undef, undef, undef, undef, undef, undef, undef, undef, undef, undef, undef, undef, undef, undef, undef, undef, undef, undef, undef, undef, undef, undef, undef, undef, undef, (.slice A34 j c34), undef, undef, undef, (.slice A38 (la - j) c38), undef], []⟩ (by intro cs b e; cases e) rfl (show 39 < 40 by decide) ?_ ?_
        · intro x hx
          simp [Op.operands] at hx
          rcases hx with rfl | rfl
          · exact hv34.trans rfl
          · exact hv38.trans rfl
        go_wp2_with fail
        refine ⟨below_size.alloc (Nat.le_refl _) _, w1.heap.size, rfl, Nat.le_refl _, by simp, ?_⟩
        exact Blk.new w1 _ _
      · intro a1 w1 hf
        refine MixA.hop ⟨#[undef, undef, (.slice (some adb) (la + g) cb), undef, undef, undef, undef, undef, undef, undef, undef, undef, undef, undef, undef, undef, undef, undef, undef, undef, undef, undef, undef, undef, undef, undef, undef, undef, undef, undef, undef, undef, undef, undef, undef, undef, undef, undef, undef, undef, undef], []⟩ (by intro cs b e; cases e) rfl (show 40 < 41 by decide) ?_ ?_
        · intro x hx
          simp [Op.operands] at hx
          rcases hx with rfl
          · exact (hf.was (t := 2) (by decide) rfl).trans rfl
        go_wp2_with fail
        first | exact ⟨below_size, rfl⟩ | exact ⟨_, rfl, below_size, rfl⟩
      · intro a1 w1 hf
        refine MixA.hop ⟨#[undef, undef, undef, undef, undef, undef, undef, undef, undef, undef, undef, (.int .i64 j), undef, undef, undef, undef, undef, undef, undef, undef, undef, undef, undef, undef, undef, undef, undef, undef, undef, undef, undef, undef, undef, undef, undef, undef, undef, undef, undef, undef, undef, undef], []⟩ (by intro cs b e; cases e) rfl (show 41 < 42 by decide) ?_ ?_
        · intro x hx
          simp [Op.operands] at hx
          rcases hx with rfl
          · exact (hf.was (t := 11) (by decide) rfl).trans rfl
        go_wp2_with fail
        first | exact ⟨below_size, rfl⟩ | exact ⟨_, rfl, below_size, rfl⟩
      · intro a1 w1 hf
        refine MixA.hop ⟨#[undef, undef, undef, undef, undef, undef, undef, undef, undef, undef, undef, (.int .i64 j), undef, undef, undef, undef, undef, undef, undef, undef, undef, undef, undef, undef, undef, undef, undef, undef, undef, undef, undef, undef, undef, undef, undef, undef, undef, undef, undef, undef, undef, undef, undef], []⟩ (by intro cs b e; cases e) rfl (show 42 < 43 by decide) ?_ ?_
        · intro x hx
          simp [Op.operands] at hx
          rcases hx with rfl
          · exact (hf.was (t := 11) (by decide) rfl).trans rfl
        go_wp2_with fail
        first | exact ⟨below_size, rfl⟩ | exact ⟨_, rfl, below_size, rfl⟩
      · intro a1 w1 hf
        refine MixA.hop ⟨#[undef, undef, undef, undef, undef, undef, undef, undef, undef, undef, (.int .i64 g), undef, undef, undef, undef, undef, undef, undef, undef, undef, undef, undef, undef, undef, undef, undef, undef, undef, undef, undef, undef, undef, undef, undef, undef, undef, undef, undef, undef, undef, undef, undef, undef, undef], []⟩ (by intro cs b e; cases e) rfl (show 43 < 44 by decide) ?_ ?_
        · intro x hx
          simp [Op.operands] at hx
          rcases hx with rfl
          · exact (hf.was (t := 10) (by decide) rfl).trans rfl
        go_wp2_with fail
        first | exact ⟨below_size, rfl⟩ | exact ⟨_, rfl, below_size, rfl⟩
      · intro a1 w1 hf
        refine MixA.hop ⟨#[undef, undef, undef, undef, undef, undef, undef, undef, undef, undef, undef, undef, undef, undef, undef, undef, undef, undef, undef, undef, undef, undef, undef, undef, undef, undef, undef, undef, undef, undef, undef, undef, undef, undef, undef, undef, undef, undef, undef, undef, undef, undef, (.int .i64 j), (.int .i64 g), undef], []⟩ (by intro cs b e; cases e) rfl (show 44 < 45 by decide) ?_ ?_
        · intro x hx
          simp [Op.operands] at hx
          rcases hx with rfl | rfl
          · exact (hf.pure (j := 12) (by decide) rfl).trans rfl
          · exact (hf.pure (j := 13) (by decide) rfl).trans rfl
        go_wp2_with fail
        first | exact ⟨below_size, rfl⟩ | exact ⟨_, rfl, below_size, rfl⟩
      · intro a1 w1 hf
        refine MixA.hop ⟨#[undef, undef, undef, undef, undef, undef, undef, undef, undef, undef, undef, undef, undef, undef, undef, undef, undef, undef, undef, undef, undef, undef, undef, undef, undef, undef, undef, undef, undef, undef, undef, undef, undef, undef, undef, undef, undef, undef, undef, undef, (.slice (some adb) (la + g) cb), (.int .i64 j), undef, undef, (.int .i64 ((j : Int) + (g : Int))), undef], []⟩ (by intro cs b e; cases e) rfl (show 45 < 46 by decide) ?_ ?_
        · intro x hx
          simp [Op.operands] at hx
          rcases hx with rfl | rfl | rfl
          · exact (hf.pure (j := 10) (by decide) rfl).trans rfl
          · exact (hf.pure (j := 11) (by decide) rfl).trans rfl
          · exact (hf.pure (j := 14) (by decide) rfl).trans rfl
        go_wp2_with fail
        first | exact ⟨below_size, rfl⟩ | exact ⟨_, rfl, below_size, rfl⟩
      · intro a1 w1 hf
        have E1 := EW w1 hf.below
        refine MixA.hop ⟨#[undef, undef, undef, undef, undef, undef, undef, undef, undef, undef, undef, undef, undef, undef, undef, undef, undef, undef, undef, undef, undef, undef, undef, undef, undef, undef, undef, undef, undef, undef, undef, undef, undef, undef, undef, undef, undef, undef, undef, undef, undef, undef, undef, undef, undef, (.slice (some (adb.add j)) g (cb - j)), undef], []⟩ (by intro cs b e; cases e) rfl (show 46 < 47 by decide) ?_ ?_
        · intro x hx
          simp [Op.operands, Call.operands] at hx
          rcases hx with rfl | rfl
          · rfl
          · exact (hf.pure (j := 15) (by decide) rfl).trans rfl
        go_wp2_with fail
        refine (l00OwnX_c _ _ _ _ _ (by exact RdI.below (HB.out.mid (by omega)) E1) (by omega)).mono ?_
        rintro e w2 ⟨A2, cap2, rfl, hw2, hb2⟩
        have W2 := Lib.hid hw2; have B2 := Lib.hid hb2
        clear hw2 hb2
        go_wp2_with fail
        exact ⟨B2.out, A2, cap2, rfl, by have := W2.out.wrK; rwa [Nat.mul_one] at this⟩
      · intro a1 w1 hf
        obtain ⟨R, hR, _⟩ := hf.facts
        obtain ⟨A46, c46, hv46, _⟩ : ∃ A c, MixA.val a1 46 = .slice A g c ∧ Wr w1 (R 16).1 (R 16).2 A g ((((b.drop j).take g)).map i64) := (hR 16 (by decide)).1
        clear hR
        refine MixA.hop ⟨#[undef, undef, undef, undef, undef, undef, undef, undef, undef, undef, undef, undef, undef, undef, undef, undef, undef, undef, undef, undef, undef, undef, undef, undef, undef, undef, undef, undef, undef, undef, undef, undef, undef, undef, undef, undef, undef, undef, undef, undef, undef, undef, undef, undef, undef, undef, (.slice A46 g c46), undef], []⟩ (by intro cs b e; cases e) rfl (show 47 < 48 by decide) ?_ ?_
        · intro x hx
          simp [Op.operands] at hx
          rcases hx with rfl
          · exact hv46.trans rfl
        go_wp2_with fail
        refine ⟨below_size.alloc (Nat.le_refl _) _, w1.heap.size, rfl, Nat.le_refl _, by simp, ?_⟩
        exact Blk.new w1 _ _
      · intro a1 w1 hf
        obtain ⟨R, hR, _⟩ := hf.facts
        obtain ⟨A34, c34, hv34, h34⟩ : ∃ A c, MixA.val a1 34 = .slice A j c ∧ Wr w1 (R 4).1 (R 4).2 A j ((a.take j).map i64) := (hR 4 (by decide)).1
        obtain ⟨A38, c38, hv38, h38⟩ : ∃ A c, MixA.val a1 38 = .slice A (la - j) c ∧ Wr w1 (R 8).1 (R 8).2 A (la - j) ((a.drop j).map i64) := (hR 8 (by decide)).1
        obtain ⟨g39, hv39, _, _, h39⟩ : ∃ g, MixA.val a1 39 = .slice (some ⟨g, 0, none⟩) 2 2 ∧ (R 9).1 ≤ g ∧ g < (R 9).2 ∧ Blk w1 g 25 #[MixA.val a1 34, MixA.val a1 38] := (hR 9 (by decide)).1
        obtain ⟨g47, hv47, _⟩ : ∃ g, MixA.val a1 47 = .slice (some ⟨g, 0, none⟩) 1 1 ∧ (R 17).1 ≤ g ∧ g < (R 17).2 ∧ Blk w1 g 25 #[MixA.val a1 46] := (hR 17 (by decide)).1
        rw [hv34, hv38] at h39
        have HM := Lib.hid (show RdS w1 (sgII (some ⟨g39, 0, none⟩) (1 + 1) [⟨A34, j, c34, a.take j⟩, ⟨A38, la - j, c38, a.drop j⟩]) from RdS.cons (h39.rd rfl (by simp)) (RdS.cons h34.rd (RdS.one h38.rd)))
        clear hR h34 h38 h39
        refine MixA.hop ⟨#[undef, undef, undef, undef, undef, undef, undef, undef, undef, undef, undef, undef, undef, undef, undef, undef, undef, undef, undef, undef, undef, undef, undef, undef, undef, undef, undef, undef, undef, undef, (.int .i64 s), undef, undef, undef, undef, undef, undef, undef, undef, (.slice (some ⟨g39, 0, none⟩) 2 2), undef, undef, undef, undef, undef, undef, undef, (.slice (some ⟨g47, 0, none⟩) 1 1), undef], []⟩ (by intro cs b e; cases e) rfl (show 48 < 49 by decide) ?_ ?_
        · intro x hx
          simp [Op.operands, Call.operands] at hx
          rcases hx with rfl | rfl | rfl | rfl
          · rfl
          · exact (hf.pure (j := 0) (by decide) rfl).trans rfl
          · exact hv39.trans rfl
          · exact hv47.trans rfl
        go_wp2_with fail
        refine (l27Make_c s (some ⟨g39, 0, none⟩) 1 2 _ (some ⟨g47, 0, none⟩) 1 _ HM.out (by omega) (by intro t ht; simp at ht; rcases ht with rfl | rfl <;> (simp; omega))).mono ?_
        rintro e w2 ⟨g2, rfl, hw2, hb2⟩
        have W2 := Lib.hid hw2; have B2 := Lib.hid hb2
        clear hw2 hb2
        go_wp2_with fail
        refine ⟨B2.out, g2, ?_, W2.out⟩
        rfl
      · intro a1 w1 hf
        refine MixA.hop ⟨#[undef, undef, undef, undef, undef, undef, undef, undef, undef, undef, undef, undef, undef], []⟩ (by intro cs b e; cases e) rfl (show 12 < 13 by decide) ?_ ?_
        · intro x hx
          simp [Op.operands] at hx
        go_wp2_with fail
        first | exact ⟨below_size.alloc (Nat.le_refl _) _, w1.heap.size, rfl, Nat.le_refl _, by simp, Blk.new w1 _ _⟩ | exact ⟨_, rfl, below_size.alloc (Nat.le_refl _) _, w1.heap.size, rfl, Nat.le_refl _, by simp, Blk.new w1 _ _⟩
      · intro a1 w1 hf
        obtain ⟨R, hR, hd⟩ := hf.facts
        obtain ⟨A34, c34, hv34, h34⟩ : ∃ A c, MixA.val a1 34 = .slice A j c ∧ Wr w1 (R 4).1 (R 4).2 A j ((a.take j).map i64) := (hR 4 (by decide)).1
        obtain ⟨A38, c38, hv38, h38⟩ : ∃ A c, MixA.val a1 38 = .slice A (la - j) c ∧ Wr w1 (R 8).1 (R 8).2 A (la - j) ((a.drop j).map i64) := (hR 8 (by decide)).1
        obtain ⟨g39, hv39, l39, r39, h39⟩ : ∃ g, MixA.val a1 39 = .slice (some ⟨g, 0, none⟩) 2 2 ∧ (R 9).1 ≤ g ∧ g < (R 9).2 ∧ Blk w1 g 25 #[MixA.val a1 34, MixA.val a1 38] := (hR 9 (by decide)).1
        obtain ⟨A46, c46, hv46, h46⟩ : ∃ A c, MixA.val a1 46 = .slice A g c ∧ Wr w1 (R 16).1 (R 16).2 A g (((b.drop j).take g).map i64) := (hR 16 (by decide)).1
        obtain ⟨g47, hv47, l47, r47, h47⟩ : ∃ g, MixA.val a1 47 = .slice (some ⟨g, 0, none⟩) 1 1 ∧ (R 17).1 ≤ g ∧ g < (R 17).2 ∧ Blk w1 g 25 #[MixA.val a1 46] := (hR 17 (by decide)).1
        obtain ⟨g2, hv48, h48⟩ : ∃ g2, MixA.val a1 48 = .agg #[.int .i64 s, .int .i64 1, .int .i64 ((la - j : Nat) - 1), MixA.val a1 39, MixA.val a1 47, .slice (some ⟨g2, 0, none⟩) 1 1] ∧ Wr w1 (R 18).1 (R 18).2 (some ⟨g2, 0, none⟩) 1 ([(0 : Int)].map i64) := (hR 18 (by decide)).1
        obtain ⟨g12, hv12, l12, r12, h12⟩ : ∃ g, MixA.val a1 12 = .pointer (some ⟨g, 0, none⟩) ∧ (R 19).1 ≤ g ∧ g < (R 19).2 ∧ Blk w1 g 29 #[i64 0, i64 0, i64 0, .slice none 0 0, .slice none 0 0, .slice none 0 0] := (hR 19 (by decide)).1
        rw [hv34, hv38] at h39; rw [hv46] at h47; rw [hv39, hv47] at hv48
        have bnd : ∀ j, j < 20 → wr.heap.size ≤ (R j).1 ∧ (R j).2 ≤ w1.heap.size := fun j hj => ⟨(hR j hj).2.1, (hR j hj).2.2.2⟩
        have HW : WrS w1 wr.heap.size w1.heap.size ([(19, ⟨some ⟨g12, 0, none⟩, 6, [i64 0, i64 0, i64 0, .slice none 0 0, .slice none 0 0, .slice none 0 0]⟩), (9, ⟨some ⟨g39, 0, none⟩, 2, [.slice A34 j c34, .slice A38 (la - j) c38]⟩), (4, sgI A34 j (a.take j)), (8, sgI A38 (la - j) (a.drop j)), (17, ⟨some ⟨g47, 0, none⟩, 1, [.slice A46 g c46]⟩), (16, sgI A46 g ((b.drop j).take g)), (18, sgI (some ⟨g2, 0, none⟩) 1 [0])].map Prod.snd : List Seg) := by
          refine WrS.byR R hd _ (show ([19, 9, 4, 8, 17, 16, 18] : List Nat).Nodup by decide) ?_
          simp only [List.forall_mem_cons]
          exact ⟨⟨by decide, h12.wr l12 r12 rfl (by simp), bnd _ (by decide)⟩, ⟨by decide, h39.wr l39 r39 rfl (by simp), bnd _ (by decide)⟩, ⟨by decide, h34, bnd _ (by decide)⟩, ⟨by decide, h38, bnd _ (by decide)⟩, ⟨by decide, h47.wr l47 r47 rfl (by simp), bnd _ (by decide)⟩, ⟨by decide, h46, bnd _ (by decide)⟩, ⟨by decide, h48, bnd _ (by decide)⟩, fun _ h => by cases h⟩
        have HM := Lib.hid (made_store (s := s) (F := cand1 a b g j) (w := wr) (w1 := w1) (g := g12) (A0 := some ⟨g39, 0, none⟩) (c0 := 2) (its0 := [⟨A34, j, c34, a.take j⟩, ⟨A38, la - j, c38, a.drop j⟩]) (A1 := some ⟨g47, 0, none⟩) (c1 := 1) (its1 := [⟨A46, g, c46, (b.drop j).take g⟩]) (A2 := some ⟨g2, 0, none⟩) (c2 := 1) (u0 := i64 s) (u1 := i64 1) (u2 := i64 ((la - j : Nat) - 1))
          HW h12 (below_of_drew hf.below) rfl rfl (by show 1 ≤ 100; omega) (by intro t ht; simp at ht; rcases ht with rfl | rfl <;> (simp; omega)) (by intro t ht; simp at ht; subst ht; simp; omega) rfl rfl (by simp [formF, cand1, HLA.out]))
        have m0 := h12.cell 0; have m1 := h12.cell 1; have m2 := h12.cell 2; have m3 := h12.cell 3; have m4 := h12.cell 4; have m5 := h12.cell 5
        have f0 := h12.frozen 0; have f1 := h12.frozen 1; have f2 := h12.frozen 2; have f3 := h12.frozen 3; have f4 := h12.frozen 4; have f5 := h12.frozen 5
        simp at m0 m1 m2 m3 m4 m5
        rw [hf.act]
        clear hR hd bnd HW h12 h34 h38 h39 h46 h47 h48 l12 r12 l39 r39 l47 r47 EW
        simp only [List.foldl_cons, List.foldl_nil, hv34, hv38, hv39, hv46, hv47, hv48, hv12]
        clear hv34 hv38 hv39 hv46 hv47 hv48 hv12 hf
        simp only [Act.put, List.setIfInBounds_toArray, List.set_cons_succ, List.set_cons_zero]
        go_wp2_with fail
        
        clear m0 m1 m2 m3 m4 m5 f0 f1 f2 f3 f4 f5
        obtain ⟨q, hq⟩ : ∃ q, fitF b c (cand1 a b g j) = q := ⟨_, rfl⟩
        have HQ := Lib.hid hq
        refine (l27Fits_c g12 _ _ _ _ 1 2 [⟨A34, j, c34, a.take j⟩, ⟨A38, la - j, c38, a.drop j⟩] _ 1 [⟨A46, g, c46, (b.drop j).take g⟩] _ 1 1 _ (some adb) C (la + g) cb lc cc b c q _ HM.out.form (by omega) (by intro t ht; simp at ht; rcases ht with rfl | rfl <;> (simp; omega)) (by intro t ht; simp at ht; subst ht; simp; omega) (by exact HB.out.below (HBW.out.trans (HM.out.below.mono HBW.out.size))) (by exact HC.out.below (HBW.out.trans (HM.out.below.mono HBW.out.size))) (by omega) (by omega) (by exact hq)).mono ?_
        rintro e w3 ⟨rfl, hb3⟩
        have B3 := Lib.hid hb3
        have MB := Lib.hid (HM.out.blk.keep hb3)
        have RR := Lib.hid (HR.out.below (HM.out.below.trans (hb3.mono HM.out.below.size)) (by have := HR.out.lt; omega))
        clear hb3 hq
        cases q
        · have HN := Lib.hid (show (find1 a b c g (la - (j + 1)) (j + 1)).or (findK a b c g (g - 1) 1) = o by
            rw [← hof.out, show la - j = la - (j + 1) + 1 by omega, find1, find1, seek_miss (p := fun j => okF b c (cand1 a b g j)) (okF_f HQ.out)])
          have vj : IntKind.i64.wrap ((j : Int) + 1) = (j : Int) + 1 := IntWalk.i64_in _ (by omega)
          go_wp2_with fail
          go_roundw
          case rel => exact ⟨j + 1, by omega, rfl, by go_num, HN.out, RR.out, HBW.out.trans ((HM.out.below.trans (B3.out.mono HM.out.below.size)).mono HBW.out.size)⟩
          case measure => simp [intOf]; omega
        · have HN := Lib.hid (show some (cand1 a b g j) = o by
            rw [← hof.out, show la - j = la - (j + 1) + 1 by omega, find1, seek_hit (p := fun j => okF b c (cand1 a b g j)) (okF_t HQ.out)]; rfl)
          have m0 := MB.out.cell 0; have m1 := MB.out.cell 1; have m2 := MB.out.cell 2; have m3 := MB.out.cell 3; have m4 := MB.out.cell 4; have m5 := MB.out.cell 5
          have r0 := RR.out.cell 0; have r1 := RR.out.cell 1; have r2 := RR.out.cell 2; have r3 := RR.out.cell 3; have r4 := RR.out.cell 4; have r5 := RR.out.cell 5
          have f0 := RR.out.frozen 0; have f1 := RR.out.frozen 1; have f2 := RR.out.frozen 2; have f3 := RR.out.frozen 3; have f4 := RR.out.frozen 4; have f5 := RR.out.frozen 5
          simp at m0 m1 m2 m3 m4 m5 r0 r1 r2 r3 r4 r5
          go_wp2_with fail
          rw [← HN.out]
          refine bodyPost_ret (v := .tuple #[.agg #[i64 (formF s (cand1 a b g j)).1, i64 (formF s (cand1 a b g j)).2.1, i64 (formF s (cand1 a b g j)).2.2.1, .slice (some ⟨g39, 0, none⟩) ((cand1 a b g j).2.length + 1) 2, .slice (some ⟨g47, 0, none⟩) (cand1 a b g j).2.length 1, .slice (some ⟨g2, 0, none⟩) (cand1 a b g j).2.length 1], .bool true]) (by simp [results, Try.results47, go_sem, r0, r1, r2, r3, r4, r5]) rfl ?_
          exact FbOut.good HM.out B3.out HBW.out HR.out.lt
    · have HN := Lib.hid (show findK a b c g (g - 1) 1 = o by rw [← hof.out, show la - j = 0 by omega]; rfl)
      clear hR hbw hof
      go_wp2_with fail
      obtain ⟨wo, rfl⟩ : ∃ wo : World, wo = wr := ⟨_, rfl⟩
      go_loopw [9, 13] (fun bv kv wr => ∃ k : Nat, 1 ≤ k ∧ k ≤ g ∧ bv = .bool false ∧ kv = .int .i64 k ∧ Hid (findK a b c g (g - k) k = o) ∧ Blk wr w.heap.size 29 #[i64 0, i64 0, i64 0, .slice none 0 0, .slice none 0 0, .slice none 0 0] ∧ Below w.heap.size w wr) (fun _ kv _ => g - (intOf kv).toNat)
      case atStart => exact ⟨1, by omega, by omega, rfl, rfl, HN.out, HR.out, HBW.out⟩
      case round =>
        clear HR HBW HN
        obtain ⟨k, hk1, hkg, rfl, rfl, hfk, hR, hbw⟩ := hrel
        have HR := Lib.hid hR; have HBW := Lib.hid hbw
        have r0 := hR.cell 0; have r1 := hR.cell 1; have r2 := hR.cell 2; have r3 := hR.cell 3; have r4 := hR.cell 4; have r5 := hR.cell 5
        have f0 := hR.frozen 0; have f1 := hR.frozen 1; have f2 := hR.frozen 2; have f3 := hR.frozen 3; have f4 := hR.frozen 4; have f5 := hR.frozen 5
        simp at r0 r1 r2 r3 r4 r5
        by_cases hltk : k < g
        · have HK := Lib.hid (show (findI a b c g k la 0).or (findK a b c g (g - (k + 1)) (k + 1)) = o by
            rw [← hfk.out, show g - k = g - (k + 1) + 1 by omega, findK, findK, seek, HLA.out])
          clear hR hbw r0 r1 r2 r3 r4 r5 f0 f1 f2 f3 f4 f5 hfk
          go_wp2_with fail
          obtain ⟨wp, rfl⟩ : ∃ wp : World, wp = wr := ⟨_, rfl⟩
          go_loopw [9, 14] (fun bv iv wr => ∃ i : Nat, i ≤ la ∧ bv = .bool false ∧ iv = .int .i64 i ∧ Hid ((findI a b c g k (la - i) i).or (findK a b c g (g - (k + 1)) (k + 1)) = o) ∧ Blk wr w.heap.size 29 #[i64 0, i64 0, i64 0, .slice none 0 0, .slice none 0 0, .slice none 0 0] ∧ Below w.heap.size w wr) (fun _ iv _ => la - (intOf iv).toNat)
          case atStart => exact ⟨0, by omega, rfl, rfl, HK.out, HR.out, HBW.out⟩
          case round =>
            clear HR HBW HK
            obtain ⟨i, hi, rfl, rfl, hfi, hR, hbw⟩ := hrel
            have HR := Lib.hid hR; have HBW := Lib.hid hbw
            have vk : IntKind.i64.wrap ((k : Int) + 1) = (k : Int) + 1 := IntWalk.i64_in _ (by omega)
            by_cases hlti : i < la
            · obtain ⟨q, hq⟩ : ∃ q, eqL (a.take i) (b.take i) = q := ⟨_, rfl⟩
              have HQ := Lib.hid hq
              have HC14 := Lib.hid (fun n => l00Same_c (some ada) (some adb) i i ca cb (a.take i) (b.take i) (wr.drewN n) ((RdI.below HA.out (below_drewN hbw n)).take (by omega)) ((RdI.below HB.out (below_drewN hbw n)).take (by omega)) (by omega))
              rw [hq] at HC14
              clear hR hbw hq
              go_wp2_with fail
              go_quiet ((go_at_call 82; first | exact Calls.quiet_of (HC14.out _) | exact quiet_add (HC14.out _)))
              obtain ⟨wq, hwq⟩ : ∃ wq, wr.drewN nq = wq := ⟨_, rfl⟩
              have HR2 := Lib.hid (show Blk wq w.heap.size 29 #[i64 0, i64 0, i64 0, .slice none 0 0, .slice none 0 0, .slice none 0 0] by rw [← hwq]; exact HR.out.drewN _)
              have HBW2 := Lib.hid (show Below w.heap.size w wq by rw [← hwq]; exact below_drewN HBW.out _)
              rw [hwq]
              clear hwq HR HBW HC14
              cases q
              · have HN := Lib.hid (show findK a b c g (g - (k + 1)) (k + 1) = o by
                  rw [← hfi.out, findI_break (show a.take i ≠ b.take i by simpa [eqL] using HQ.out) (by rw [HLA.out]; omega)]; rfl)
                clear hfi
                go_wp2_with fail
                go_roundw
                case rel => exact ⟨k + 1, by omega, by omega, rfl, by go_num, HN.out, HR2.out, HBW2.out⟩
                case measure => simp [intOf]; omega
              · have HJ := Lib.hid (show ((findJ a b c g k i (la - i) i).or (findI a b c g k (la - (i + 1)) (i + 1))).or (findK a b c g (g - (k + 1)) (k + 1)) = o by
                  have h := hfi.out
                  rw [show la - i = la - (i + 1) + 1 by omega, findI_succ, HLA.out] at h
                  exact h)
                clear hfi
                go_wp2_with fail
                obtain ⟨wu, rfl⟩ : ∃ wu : World, wu = wr := ⟨_, rfl⟩
                simp only [Bool.not_true]
                go_loopw [9, 15] (fun bv jv wr => ∃ j : Nat, i ≤ j ∧ j ≤ la ∧ bv = .bool false ∧ jv = .int .i64 j ∧ Hid (((findJ a b c g k i (la - j) j).or (findI a b c g k (la - (i + 1)) (i + 1))).or (findK a b c g (g - (k + 1)) (k + 1)) = o) ∧ Blk wr w.heap.size 29 #[i64 0, i64 0, i64 0, .slice none 0 0, .slice none 0 0, .slice none 0 0] ∧ Below w.heap.size w wr) (fun _ jv _ => la - (intOf jv).toNat)
                case atStart => exact ⟨i, by omega, by omega, rfl, rfl, HJ.out, HR2.out, HBW2.out⟩
                case round =>
                  clear HR2 HBW2 HJ
                  obtain ⟨j, hij, hj, rfl, rfl, hfj, hR, hbw⟩ := hrel
                  have HR := Lib.hid hR; have HBW := Lib.hid hbw
                  by_cases hltj : j < la
                  · clear hR hbw
                    go_wp2_with fail
                    have HA1 := Lib.hid (RdI.below HA.out (below_drew HBW.out)); have HB1 := Lib.hid (RdI.below HB.out (below_drew HBW.out))
                    have hz0 := HBW.out.size
                    refine Mix.wp_region_mix [0, 0, 0, 1, 0, 0, 0, 0, 1, 0, 0, 0, 1, 1, 0] (fun w' => ∃ x : Ext wr, w' = x.w) (by kernel_rfl) (by kernel_rfl) (InExt.drew _) ?_
                    repeat (first | (refine Mix.wpMix_read (by rfl) ?_; go_big_quiet_step (fail); refine wpQuiet_nil ?_) | (refine Mix.wpMix_pure (by rfl) ?_; go_big_quiet_step (fail); refine wpQuiet_nil ?_))
                    refine Mix.wpMix_chg (by rfl) (fun K hK => ?_)
                    go_wp2_with fail
                    refine (l00OwnX_c _ _ _ (a.take i) _ (by exact HA1.out.take (by omega)) (by omega)).mono ?_
                    rintro e w1 ⟨A1, q1, rfl, hw1, hb1⟩
                    have O1 := Lib.hid (show Wr w1 wr.heap.size w1.heap.size A1 i ((a.take i).map i64) by have := hw1.wrK; rwa [Nat.mul_one] at this)
                    have E1 := Lib.hid (below_of_drew hb1)
                    have hz1 : wr.heap.size ≤ w1.heap.size := E1.out.size
                    have HA2 := Lib.hid (HA1.out.below (show Below wr.drew.heap.size wr.drew w1 from hb1))
                    clear hw1 hb1
                    go_wp2_with fail
                    refine hK _ _ ⟨⟨_, E1.out⟩, rfl⟩ ?_
                    clear hK K
                    repeat (first | (refine Mix.wpMix_read (by rfl) ?_; go_big_quiet_step (fail); refine wpQuiet_nil ?_) | (refine Mix.wpMix_pure (by rfl) ?_; go_big_quiet_step (fail); refine wpQuiet_nil ?_))
                    refine Mix.wpMix_chg (by rfl) (fun K hK => ?_)
                    go_wp2_with fail
                    refine (l00OwnX_c _ _ _ ((a.drop i).take (j - i)) _ (by exact HA2.out.mid (by omega)) (by omega)).mono ?_
                    rintro e w2 ⟨A2, q2, rfl, hw2, hb2⟩
                    have O2 := Lib.hid (show Wr w2 w1.heap.size w2.heap.size A2 (j - i) (((a.drop i).take (j - i)).map i64) by have := hw2.wrK; rwa [Nat.mul_one] at this)
                    have E2 := Lib.hid (below_chain E1.out hz1 hb2)
                    have hz2 := hb2.size
                    have P2 := Lib.hid (O1.out.below hb2)
                    have HA3 := Lib.hid (HA2.out.below hb2)
                    clear hw2 hb2
                    go_wp2_with fail
                    refine hK _ _ ⟨⟨_, E2.out⟩, rfl⟩ ?_
                    clear hK K
                    repeat (first | (refine Mix.wpMix_read (by rfl) ?_; go_big_quiet_step (fail); refine wpQuiet_nil ?_) | (refine Mix.wpMix_pure (by rfl) ?_; go_big_quiet_step (fail); refine wpQuiet_nil ?_))
                    refine Mix.wpMix_chg (by rfl) (fun K hK => ?_)
                    go_wp2_with fail
                    refine (l00OwnX_c _ _ _ (a.drop j) _ (by exact HA3.out.drop (by omega)) (by omega)).mono ?_
                    rintro e w3 ⟨A3, q3, rfl, hw3, hb3⟩
                    have O3 := Lib.hid (show Wr w3 w2.heap.size w3.heap.size A3 (la - j) ((a.drop j).map i64) by have := hw3.wrK; rwa [Nat.mul_one] at this)
                    have E3 := Lib.hid (below_chain E2.out (by omega) hb3)
                    have hz3 := hb3.size
                    have S3 := Lib.hid (WrS.cons1 (P2.out.below hb3) (WrS.cons1 (O2.out.below hb3) (WrS.one O3.out) (by omega) (by omega)) (by omega) (by omega))
                    clear hw3 hb3
                    go_wp2_with fail
                    refine hK _ _ ⟨⟨_, E3.out⟩, rfl⟩ ?_
                    clear hK K
                    repeat (first | (refine Mix.wpMix_read (by rfl) ?_; go_big_quiet_step (fail); refine wpQuiet_nil ?_) | (refine Mix.wpMix_pure (by rfl) ?_; go_big_quiet_step (fail); refine wpQuiet_nil ?_))
                    refine Mix.wpMix_chg (by rfl) (fun K hK => ?_)
                    go_wp2_with fail
                    refine hK _ _ ⟨⟨_, below_chain E3.out (by omega) (below_size.alloc (Nat.le_refl _) _)⟩, rfl⟩ ?_
                    clear hK K
                    obtain ⟨w4, hw4⟩ : ∃ w4, w3.alloc (.cells #[.slice A1 i q1, .slice A2 (j - i) q2, .slice A3 (la - j) q3] 25) = w4 := ⟨_, rfl⟩
                    rw [hw4]
                    repeat (first | (refine Mix.wpMix_read (by rfl) ?_; go_big_quiet_step (fail); refine wpQuiet_nil ?_) | (refine Mix.wpMix_pure (by rfl) ?_; go_big_quiet_step (fail); refine wpQuiet_nil ?_))
                    (refine Mix.wpMix_nil ?_; try simp only [Exit.then])
                    have E4 := Lib.hid (show Below wr.heap.size wr w4 by rw [← hw4]; exact below_chain E3.out (by omega) (below_size.alloc (Nat.le_refl _) _))
                    have S4 := Lib.hid (show WrS w4 wr.heap.size w4.heap.size (sgII (some ⟨w3.heap.size, 0, none⟩) 3 [⟨A1, i, q1, a.take i⟩, ⟨A2, j - i, q2, (a.drop i).take (j - i)⟩, ⟨A3, la - j, q3, a.drop j⟩]) by
                      have h1 : Wr w4 w3.heap.size w4.heap.size (some ⟨w3.heap.size, 0, none⟩) 3 [.slice A1 i q1, .slice A2 (j - i) q2, .slice A3 (la - j) q3] := by rw [← hw4]; exact (Blk.new w3 25 _).wr (Nat.le_refl _) (by simp) rfl (by simp)
                      have h2 := S3.out.below (show Below w3.heap.size w3 w4 by rw [← hw4]; exact below_size.alloc (Nat.le_refl _) _)
                      have hz4 : w3.heap.size ≤ w4.heap.size := by rw [← hw4]; simp
                      exact (h2.append (WrS.one h1) (by omega) hz4).perm (List.perm_append_singleton _ _))
                    have HA4 := Lib.hid (RdI.below HA.out (HBW.out.trans (E4.out.mono hz0))); have HB4 := Lib.hid (RdI.below HB.out (HBW.out.trans (E4.out.mono hz0)))
                    have hz4 : wr.heap.size ≤ w4.heap.size := E4.out.size
                    clear hw4 O1 O2 O3 P2 S3 E1 E2 E3 HA1 HB1 HA2 HA3
                    have vik : IntKind.i64.wrap ((i : Int) + (k : Int)) = ((i + k : Nat) : Int) := (IntWalk.i64_in _ (by omega)).trans (by omega)
                    have vjk : IntKind.i64.wrap ((j : Int) + (k : Int)) = ((j + k : Nat) : Int) := (IntWalk.i64_in _ (by omega)).trans (by omega)
                    have vjg : IntKind.i64.wrap ((j : Int) + (g : Int)) = ((j + g : Nat) : Int) := (IntWalk.i64_in _ (by omega)).trans (by omega)
                    go_wp2_with fail
                    refine Mix.wp_region_mix [0, 0, 0, 0, 0, 0, 1, 0, 0, 0, 0, 0, 0, 0, 0, 1, 1, 0] (fun w' => ∃ x : Ext w4, w' = x.w) (by kernel_rfl) (by kernel_rfl) (InExt.drew _) ?_
                    repeat (first | (refine Mix.wpMix_read (by rfl) ?_; go_big_quiet_step (fail); refine wpQuiet_nil ?_) | (refine Mix.wpMix_pure (by rfl) ?_; go_big_quiet_step (fail); refine wpQuiet_nil ?_))
                    refine Mix.wpMix_chg (by rfl) (fun K hK => ?_)
                    go_wp2_with fail
                    refine (l00OwnX_c _ _ _ ((b.drop i).take k) _ (by exact RdI.mid HB4.out (by omega)) (by omega)).mono ?_
                    rintro e w5 ⟨A4, q4, rfl, hw5, hb5⟩
                    have O5 := Lib.hid (show Wr w5 w4.heap.size w5.heap.size A4 k (((b.drop i).take k).map i64) by have := hw5.wrK; rwa [Nat.mul_one] at this)
                    have E5 := Lib.hid (below_of_drew hb5)
                    have hz5 : w4.heap.size ≤ w5.heap.size := E5.out.size
                    have HB5 := Lib.hid (HB4.out.below E5.out)
                    clear hw5 hb5
                    go_wp2_with fail
                    refine hK _ _ ⟨⟨_, E5.out⟩, rfl⟩ ?_
                    clear hK K
                    repeat (first | (refine Mix.wpMix_read (by rfl) ?_; go_big_quiet_step (fail); refine wpQuiet_nil ?_) | (refine Mix.wpMix_pure (by rfl) ?_; go_big_quiet_step (fail); refine wpQuiet_nil ?_))
                    refine Mix.wpMix_chg (by rfl) (fun K hK => ?_)
                    go_wp2_with fail
                    rw [show j + g - (j + k) = g - k by omega]
                    refine (l00OwnX_c _ _ _ ((b.drop (j + k)).take (g - k)) _ (by exact RdI.mid HB5.out (by omega)) (by omega)).mono ?_
                    rintro e w6 ⟨A5, q5, rfl, hw6, hb6⟩
                    have O6 := Lib.hid (show Wr w6 w5.heap.size w6.heap.size A5 (g - k) (((b.drop (j + k)).take (g - k)).map i64) by have := hw6.wrK; rwa [Nat.mul_one] at this)
                    have E6 := Lib.hid (below_chain E5.out hz5 hb6)
                    have hz6 := hb6.size
                    have S6 := Lib.hid (WrS.cons1 (O5.out.below hb6) (WrS.one O6.out) (by omega) (by omega))
                    clear hw6 hb6
                    go_wp2_with fail
                    refine hK _ _ ⟨⟨_, E6.out⟩, rfl⟩ ?_
                    clear hK K
                    repeat (first | (refine Mix.wpMix_read (by rfl) ?_; go_big_quiet_step (fail); refine wpQuiet_nil ?_) | (refine Mix.wpMix_pure (by rfl) ?_; go_big_quiet_step (fail); refine wpQuiet_nil ?_))
                    refine Mix.wpMix_chg (by rfl) (fun K hK => ?_)
                    go_wp2_with fail
                    refine hK _ _ ⟨⟨_, below_chain E6.out (by omega) (below_size.alloc (Nat.le_refl _) _)⟩, rfl⟩ ?_
                    clear hK K
                    obtain ⟨w7, hw7⟩ : ∃ w7, w6.alloc (.cells #[.slice A4 k q4, .slice A5 (g - k) q5] 25) = w7 := ⟨_, rfl⟩
                    rw [hw7]
                    repeat (first | (refine Mix.wpMix_read (by rfl) ?_; go_big_quiet_step (fail); refine wpQuiet_nil ?_) | (refine Mix.wpMix_pure (by rfl) ?_; go_big_quiet_step (fail); refine wpQuiet_nil ?_))
                    (refine Mix.wpMix_nil ?_; try simp only [Exit.then])
                    have hz7' : w6.heap.size ≤ w7.heap.size := by rw [← hw7]; simp
                    have E67 := Lib.hid (show Below w6.heap.size w6 w7 by rw [← hw7]; exact below_size.alloc (Nat.le_refl _) _)
                    have E7 := Lib.hid (show Below wr.heap.size wr w7 from below_chain E4.out hz4 (below_chain E6.out (by omega) E67.out))
                    have S7 := Lib.hid (show WrS w7 wr.heap.size w7.heap.size (sgII (some ⟨w3.heap.size, 0, none⟩) 3 [⟨A1, i, q1, a.take i⟩, ⟨A2, j - i, q2, (a.drop i).take (j - i)⟩, ⟨A3, la - j, q3, a.drop j⟩] ++ sgII (some ⟨w6.heap.size, 0, none⟩) 2 [⟨A4, k, q4, (b.drop i).take k⟩, ⟨A5, g - k, q5, (b.drop (j + k)).take (g - k)⟩]) by
                      have h1 : Wr w7 w6.heap.size w7.heap.size (some ⟨w6.heap.size, 0, none⟩) 2 [.slice A4 k q4, .slice A5 (g - k) q5] := by rw [← hw7]; exact (Blk.new w6 25 _).wr (Nat.le_refl _) (by simp) rfl (by simp)
                      have h2 := S6.out.below E67.out
                      have h3 := (h2.append (WrS.one h1) (by omega) hz7').perm (List.perm_append_singleton _ _)
                      exact (S4.out.below (below_chain E6.out (by omega) E67.out)).append h3 hz4 (by omega))
                    have hz7 : wr.heap.size ≤ w7.heap.size := E7.out.size
                    clear hw7 O5 O6 S6 E5 E6 HA4 HB4 HB5 S4 E67
                    go_wp2_with fail
                    refine (l27Make_c s (some ⟨w3.heap.size, 0, none⟩) 2 3 [⟨A1, i, q1, a.take i⟩, ⟨A2, j - i, q2, (a.drop i).take (j - i)⟩, ⟨A3, la - j, q3, a.drop j⟩] (some ⟨w6.heap.size, 0, none⟩) 2 _ S7.out.rd.left (by omega) (by intro t ht; simp at ht; rcases ht with rfl | rfl | rfl <;> (simp; omega))).mono ?_
                    rintro e w8 ⟨g2, rfl, hw8, hb8⟩
                    have hz8 := hb8.size
                    have e79 : Below w7.heap.size w7 w8 := hb8
                    have HW := (S7.out.below e79).append (WrS.one hw8) hz7 e79.size
                    have HM := Lib.hid (made_alloc (s := s) (F := cand2 a b g k i j) (w := wr) (w1 := w8) (A0 := some ⟨w3.heap.size, 0, none⟩) (c0 := 3) (its0 := [⟨A1, i, q1, a.take i⟩, ⟨A2, j - i, q2, (a.drop i).take (j - i)⟩, ⟨A3, la - j, q3, a.drop j⟩]) (A1 := some ⟨w6.heap.size, 0, none⟩) (c1 := 2) (its1 := [⟨A4, k, q4, (b.drop i).take k⟩, ⟨A5, g - k, q5, (b.drop (j + k)).take (g - k)⟩]) (A2 := some ⟨g2, 0, none⟩) (c2 := 2) (u0 := i64 s) (u1 := i64 2) (u2 := i64 ((la - j : Nat) - 1))
                      HW (below_chain E7.out hz7 e79) rfl rfl (by show 2 ≤ 100; omega) (by intro t ht; simp at ht; rcases ht with rfl | rfl | rfl <;> (simp; omega)) (by intro t ht; simp at ht; rcases ht with rfl | rfl <;> (simp; omega)) rfl rfl (by simp [formF, cand2, HLA.out]))
                    clear HW e79 hw8 hb8
                    go_wp2_with fail
                    obtain ⟨q, hq⟩ : ∃ q, fitF b c (cand2 a b g k i j) = q := ⟨_, rfl⟩
                    have HQF := Lib.hid hq
                    refine (l27Fits_c w8.heap.size _ _ _ _ 2 3 [⟨A1, i, q1, a.take i⟩, ⟨A2, j - i, q2, (a.drop i).take (j - i)⟩, ⟨A3, la - j, q3, a.drop j⟩] _ 2 [⟨A4, k, q4, (b.drop i).take k⟩, ⟨A5, g - k, q5, (b.drop (j + k)).take (g - k)⟩] _ 2 2 _ (some adb) C (la + g) cb lc cc b c q _ HM.out.form (by omega) (by intro t ht; simp at ht; rcases ht with rfl | rfl | rfl <;> (simp; omega)) (by intro t ht; simp at ht; rcases ht with rfl | rfl <;> (simp; omega)) (by exact HB.out.below (HBW.out.trans (HM.out.below.mono HBW.out.size))) (by exact HC.out.below (HBW.out.trans (HM.out.below.mono HBW.out.size))) (by omega) (by omega) (by exact hq)).mono ?_
                    rintro e w3' ⟨rfl, hb3⟩
                    have B3 := Lib.hid hb3
                    have MB := Lib.hid (HM.out.blk.keep hb3)
                    have RR := Lib.hid (HR.out.below (HM.out.below.trans (hb3.mono HM.out.below.size)) (by have := HR.out.lt; omega))
                    clear hb3 hq
                    cases q
                    · have HN := Lib.hid (show ((findJ a b c g k i (la - (j + 1)) (j + 1)).or (findI a b c g k (la - (i + 1)) (i + 1))).or (findK a b c g (g - (k + 1)) (k + 1)) = o by
                        have h := hfj.out
                        rw [show la - j = la - (j + 1) + 1 by omega, findJ_miss HQF.out] at h
                        exact h)
                      have vj : IntKind.i64.wrap ((j : Int) + 1) = (j : Int) + 1 := IntWalk.i64_in _ (by omega)
                      go_wp2_with fail
                      go_roundw
                      case rel => exact ⟨j + 1, by omega, by omega, rfl, by go_num, HN.out, RR.out, HBW.out.trans ((HM.out.below.trans (B3.out.mono HM.out.below.size)).mono HBW.out.size)⟩
                      case measure => simp [intOf]; omega
                    · have HN := Lib.hid (show some (cand2 a b g k i j) = o by
                        have h := hfj.out
                        rw [show la - j = la - (j + 1) + 1 by omega, findJ_hit HQF.out] at h
                        exact h)
                      have m0 := MB.out.cell 0; have m1 := MB.out.cell 1; have m2 := MB.out.cell 2; have m3 := MB.out.cell 3; have m4 := MB.out.cell 4; have m5 := MB.out.cell 5
                      have r0 := RR.out.cell 0; have r1 := RR.out.cell 1; have r2 := RR.out.cell 2; have r3 := RR.out.cell 3; have r4 := RR.out.cell 4; have r5 := RR.out.cell 5
                      have f0 := RR.out.frozen 0; have f1 := RR.out.frozen 1; have f2 := RR.out.frozen 2; have f3 := RR.out.frozen 3; have f4 := RR.out.frozen 4; have f5 := RR.out.frozen 5
                      simp at m0 m1 m2 m3 m4 m5 r0 r1 r2 r3 r4 r5
                      go_wp2_with fail
                      rw [← HN.out]
                      refine bodyPost_ret (v := .tuple #[.agg #[i64 (formF s (cand2 a b g k i j)).1, i64 (formF s (cand2 a b g k i j)).2.1, i64 (formF s (cand2 a b g k i j)).2.2.1, .slice (some ⟨w3.heap.size, 0, none⟩) ((cand2 a b g k i j).2.length + 1) 3, .slice (some ⟨w6.heap.size, 0, none⟩) (cand2 a b g k i j).2.length 2, .slice (some ⟨g2, 0, none⟩) (cand2 a b g k i j).2.length 2], .bool true]) (by simp [results, Try.results47, go_sem, r0, r1, r2, r3, r4, r5]) rfl ?_
                      exact FbOut.good HM.out B3.out HBW.out HR.out.lt
                  · have HN := Lib.hid (show (findI a b c g k (la - (i + 1)) (i + 1)).or (findK a b c g (g - (k + 1)) (k + 1)) = o by rw [← hfj.out, show la - j = 0 by omega]; rfl)
                    have vi : IntKind.i64.wrap ((i : Int) + 1) = (i : Int) + 1 := IntWalk.i64_in _ (by omega)
                    clear hR hbw hfj
                    go_wp2_with fail
                    go_roundw
                    case rel => exact ⟨i + 1, by omega, rfl, by go_num, HN.out, HR.out, HBW.out⟩
                    case measure => simp [intOf]; omega
            · have HN := Lib.hid (show findK a b c g (g - (k + 1)) (k + 1) = o by rw [← hfi.out, show la - i = 0 by omega]; rfl)
              clear hR hbw hfi
              go_wp2_with fail
              go_roundw
              case rel => exact ⟨k + 1, by omega, by omega, rfl, by go_num, HN.out, HR.out, HBW.out⟩
              case measure => simp [intOf]; omega
        · have HN := Lib.hid (show none = o by rw [← hfk.out, show g - k = 0 by omega]; rfl)
          clear hR hbw hfk
          go_wp2_with fail
          refine bodyPost_ret (v := .tuple #[.agg #[i64 0, i64 0, i64 0, .slice none 0 0, .slice none 0 0, .slice none 0 0], .bool false]) (by simp [results, Try.results47, go_sem, r0, r1, r2, r3, r4, r5]) rfl ?_
          rw [← HN.out]
          exact ⟨0, 0, 0, none, 0, 0, [], none, 0, 0, [], none, 0, 0, rfl, (fun F h => by cases h), below_set6 HBW.out (Nat.le_refl _)⟩
end Go.Proofs.Ytmmgejnhfpfmnaa
