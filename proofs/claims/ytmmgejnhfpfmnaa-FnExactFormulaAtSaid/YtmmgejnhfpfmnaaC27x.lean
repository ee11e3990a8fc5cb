/-
  Contracts of chapter 27 (RepeatsIn): the program's search.
-/
import Derived.Test.YtmmgejnhfpfmnaaC27w
import Derived.Test.YtmmgejnhfpfmnaaC27u
import Derived.Test.YtmmgejnhfpfmnaaMixW
namespace Go.Proofs.Ytmmgejnhfpfmnaa
open Go.RowKit

section
variable {w wr w1 w2 w3 : World} {lo hi l1 r1 l2 r2 g : Nat} {ss tt rows : List Seg} {u0 u1 u2 u3 u4 u5 : Value}
theorem WrS.two (h : WrS w l1 r1 ss) (h' : WrS w l2 r2 tt) (hd : r1 ≤ l2 ∨ r2 ≤ l1) (b1 : lo ≤ l1 ∧ l1 ≤ r1 ∧ r1 ≤ hi) (b2 : lo ≤ l2 ∧ l2 ≤ r2 ∧ r2 ≤ hi) : WrS w lo hi (ss ++ tt) := by
  rcases hd with hd | hd
  · exact (h.wider (lo' := lo) (hi' := r1) b1.1 (Nat.le_refl _)).append (h'.wider (lo' := r1) (hi' := hi) hd b2.2.2) (by omega) b1.2.2
  · exact ((h'.wider (lo' := lo) (hi' := r2) b2.1 (Nat.le_refl _)).append (h.wider (lo' := r2) (hi' := hi) hd b1.2.2) (by omega) b2.2.2).perm List.perm_append_comm
theorem box_store {t : TypeId} (h : WrS w1 lo hi (⟨some ⟨g, 0, none⟩, 6, [i64 0, i64 0, i64 0, .slice none 0 0, .slice none 0 0, .slice none 0 0]⟩ :: rows)) (hz : Blk w1 g t #[i64 0, i64 0, i64 0, .slice none 0 0, .slice none 0 0, .slice none 0 0]) :
    WrS ((((((w1.setCell ⟨g, 0, none⟩ u0).setCell ⟨g, 1, none⟩ u1).setCell ⟨g, 2, none⟩ u2).setCell ⟨g, 3, none⟩ u3).setCell ⟨g, 4, none⟩ u4).setCell ⟨g, 5, none⟩ u5) lo hi rows ∧
    Blk ((((((w1.setCell ⟨g, 0, none⟩ u0).setCell ⟨g, 1, none⟩ u1).setCell ⟨g, 2, none⟩ u2).setCell ⟨g, 3, none⟩ u3).setCell ⟨g, 4, none⟩ u4).setCell ⟨g, 5, none⟩ u5) g t #[u0, u1, u2, u3, u4, u5] := by
  refine ⟨⟨fun t ht => ?_, (List.pairwise_cons.1 h.apart).2⟩, ?_⟩
  · have hw := h.tail.each t ht
    refine (hw.move (fun ad hn ea => ?_) (by simp) (Nat.le_refl _))
    have hne : g ≠ ad.block := (List.pairwise_cons.1 h.apart).1 t ht ⟨g, 0, none⟩ ad rfl ea (by show 0 < 6; omega) hn
    have hk : ∀ (w : World) (i : Nat) (u : Value), (w.setCell ⟨g, i, none⟩ u).heap[ad.block]? = w.heap[ad.block]? := fun w i u => Below.heap_setCell w _ u _ (fun e => hne e.symm)
    rw [hk, hk, hk, hk, hk, hk]
  · have := (((((hz.set_ 0 u0).set_ 1 u1).set_ 2 u2).set_ 3 u3).set_ 4 u4).set_ 5 u5
    simpa using this
variable {s : Int} {F : Fd} {A0 : Option Addr} {n0 c0 : Nat} {its0 : List It} {A1 : Option Addr} {n1 c1 : Nat} {its1 : List It} {A2 : Option Addr} {n2 c2 : Nat}
theorem FbOut.good2 (hb2 : Below wr.heap.size wr w2) (hr : FoR (formF s F) wr.heap.size w2 A0 n0 its0 A1 n1 its1 A2 n2) (hb : Below w2.heap.size w2 w3) (hw : Below w.heap.size w wr) (hlt : w.heap.size < wr.heap.size) :
    FbOut s (some F) w (.returned (.tuple #[.agg #[i64 s, i64 (formF s F).2.1, i64 (formF s F).2.2.1, .slice A0 n0 c0, .slice A1 n1 c1, .slice A2 n2 c2], .bool true]))
      ((((((w3.setCell ⟨w.heap.size, 0, none⟩ u0).setCell ⟨w.heap.size, 1, none⟩ u1).setCell ⟨w.heap.size, 2, none⟩ u2).setCell ⟨w.heap.size, 3, none⟩ u3).setCell ⟨w.heap.size, 4, none⟩ u4).setCell ⟨w.heap.size, 5, none⟩ u5) := by
  obtain ⟨h1, h2, h3, h4, h5, h6, h7, h8⟩ := hr
  refine ⟨_, _, _, A0, n0, c0, its0, A1, n1, c1, its1, A2, n2, c2, rfl, fun F' e => ?_, below_set6 ((hw.trans (hb2.mono (by omega))).trans (hb.mono (by have := hb2.size; omega))) (Nat.le_refl _)⟩
  injection e with e; subst e
  exact ⟨⟨rfl, rfl, rfl⟩, (((h1.below hb).set6 hlt).wider (by omega) (by have := hb.size; simpa using this)), h2, h3, h4, h5, h6, h7, h8⟩
end
/-- a formula tape of the call's own and whether it fits, as a value in a region -/
def fF (s : Int) (F : Fd) (q : Bool) : MixA.Fact1 := fun _ v lo hi w =>
  ∃ A0 n0 c0 its0 A1 n1 c1 its1 A2 n2 c2, v = .tuple #[.agg #[i64 s, i64 (formF s F).2.1, i64 (formF s F).2.2.1, .slice A0 n0 c0, .slice A1 n1 c1, .slice A2 n2 c2], .bool q] ∧
    WrS w lo hi (sgII A0 n0 its0 ++ sgII A1 n1 its1 ++ [sgI A2 n2 (formF s F).2.2.2.2.2]) ∧ its0.map It.xs = F.1 ∧ its1.map It.xs = F.2 ∧ n0 ≤ 1000 ∧ n1 ≤ 1000 ∧ n2 ≤ 1000 ∧ (∀ t ∈ its0, t.n ≤ 100000) ∧ (∀ t ∈ its1, t.n ≤ 100000)
theorem fF_st (s : Int) (F : Fd) (q : Bool) : MixA.Stab (fF s F q) := fun _ _ _ _ _ _ hb h => by
  obtain ⟨A0, n0, c0, its0, A1, n1, c1, its1, A2, n2, c2, e, h1, h2⟩ := h
  exact ⟨A0, n0, c0, its0, A1, n1, c1, its1, A2, n2, c2, e, h1.below hb, h2⟩
theorem rdII5 {w : World} {g : Nat} {t : TypeId} {a b c d e : It} (hg : Blk w g t #[hdI a, hdI b, hdI c, hdI d, hdI e]) (ha : RdI w a.A a.n a.xs) (hb : RdI w b.A b.n b.xs) (hc : RdI w c.A c.n c.xs) (hd : RdI w d.A d.n d.xs) (he : RdI w e.A e.n e.xs) : RdS w (sgII (some ⟨g, 0, none⟩) 5 [a, b, c, d, e]) :=
  RdS.cons (hg.rd rfl (by simp)) (RdS.cons ha (RdS.cons hb (RdS.cons hc (RdS.cons hd (RdS.one he)))))
theorem rdII3 {w : World} {g : Nat} {t : TypeId} {a b c : It} (hg : Blk w g t #[hdI a, hdI b, hdI c]) (ha : RdI w a.A a.n a.xs) (hb : RdI w b.A b.n b.xs) (hc : RdI w c.A c.n c.xs) : RdS w (sgII (some ⟨g, 0, none⟩) 3 [a, b, c]) :=
  RdS.cons (hg.rd rfl (by simp)) (RdS.cons ha (RdS.cons hb (RdS.one hc)))
set_option maxHeartbeats 8000000 in
set_option maxRecDepth 100000 in
theorem twoRepeats_c (s : Int) (A B C : Option Addr) (la ca lb cb lc cc : Nat) (a b c : List Int) (g : Nat) (w : World) (ha : RdI w A la a) (hb : RdI w B lb b) (hc : RdI w C lc c) (hla : 0 < la ∧ la ≤ 40) (hg : 1 ≤ g ∧ g ≤ 8) (hlb : lb = la + g) (hlc : lc ≤ 1000000) (hca : la ≤ ca) (hcb : lb ≤ cb) :
    Calls Try.prog 94 #[.int .i64 s, .slice A la ca, .slice B lb cb, .slice C lc cc] w (FbOut s (findK a b c g (g - 1) 1) w) := by
  have HLA := Lib.hid ha.len
  obtain ⟨ada, rfl, haba, hcsa⟩ := ha.2 (by omega)
  obtain ⟨adb, rfl, habb, hcsb⟩ := hb.2 (by omega)
  have HA := Lib.hid ha; have HB := Lib.hid hb; have HC := Lib.hid hc
  clear ha hb hc hcsa hcsb
  subst hlb
  obtain ⟨o, ho⟩ : ∃ o, findK a b c g (g - 1) 1 = o := ⟨_, rfl⟩
  rw [ho]
  have HO := Lib.hid ho
  clear ho
  have r0 := Blk.new w 29 #[i64 0, i64 0, i64 0, .slice none 0 0, .slice none 0 0, .slice none 0 0]
  have R0 := Lib.hid r0
  clear r0
  go_enter Try.func94, Try.ntmps94
  go_wp2_with fail
  rw [show ((la : Int) + (g : Int) - (la : Int)) = (g : Int) by omega]
  go_loopw [9, 11] (fun bv kv wr => ∃ k : Nat, 1 ≤ k ∧ k ≤ g ∧ bv = .bool false ∧ kv = .int .i64 k ∧ Hid (findK a b c g (g - k) k = o) ∧ Blk wr w.heap.size 29 #[i64 0, i64 0, i64 0, .slice none 0 0, .slice none 0 0, .slice none 0 0] ∧ Below w.heap.size w wr) (fun _ kv _ => g - (intOf kv).toNat)
  case atStart => exact ⟨1, by omega, by omega, rfl, rfl, HO.out, R0.out, below_size.alloc (Nat.le_refl _) _⟩
  case round =>
    clear R0
    obtain ⟨k, hk1, hkg, rfl, rfl, hfk, hR, hbw⟩ := hrel
    have HR := Lib.hid hR; have HBW := Lib.hid hbw
    by_cases hltk : k < g
    · have HK := Lib.hid (show (findI a b c g k la 0).or (findK a b c g (g - (k + 1)) (k + 1)) = o by
        rw [← hfk.out, show g - k = g - (k + 1) + 1 by omega, findK, findK, seek, HLA.out])
      clear hR hbw hfk
      go_wp2_with fail
      obtain ⟨wp, rfl⟩ : ∃ wp : World, wp = wr := ⟨_, rfl⟩
      go_loopw [9, 28] (fun bv iv wr => ∃ i : Nat, i ≤ la ∧ bv = .bool false ∧ iv = .int .i64 i ∧ Hid ((findI a b c g k (la - i) i).or (findK a b c g (g - (k + 1)) (k + 1)) = o) ∧ Blk wr w.heap.size 29 #[i64 0, i64 0, i64 0, .slice none 0 0, .slice none 0 0, .slice none 0 0] ∧ Below w.heap.size w wr) (fun _ iv _ => la - (intOf iv).toNat)
      case atStart => exact ⟨0, by omega, rfl, rfl, HK.out, HR.out, HBW.out⟩
      case round =>
        clear HR HBW HK
        obtain ⟨i, hi, rfl, rfl, hfi, hR, hbw⟩ := hrel
        have HR := Lib.hid hR; have HBW := Lib.hid hbw
        have vk : IntKind.i64.wrap ((k : Int) + 1) = (k : Int) + 1 := IntWalk.i64_in _ (by omega)
        by_cases hlti : i < la
        · have HJ := Lib.hid (show ((findJ a b c g k i (la - i) i).or (findI a b c g k (la - (i + 1)) (i + 1))).or (findK a b c g (g - (k + 1)) (k + 1)) = o by
            have h := hfi.out
            rw [show la - i = la - (i + 1) + 1 by omega, findI_succ, HLA.out] at h
            exact h)
          clear hR hbw hfi
          go_wp2_with fail
          obtain ⟨wu, rfl⟩ : ∃ wu : World, wu = wr := ⟨_, rfl⟩
          go_loopw [9, 13] (fun bv jv wr => ∃ j : Nat, i ≤ j ∧ j ≤ la ∧ bv = .bool false ∧ jv = .int .i64 j ∧ Hid (((findJ a b c g k i (la - j) j).or (findI a b c g k (la - (i + 1)) (i + 1))).or (findK a b c g (g - (k + 1)) (k + 1)) = o) ∧ Blk wr w.heap.size 29 #[i64 0, i64 0, i64 0, .slice none 0 0, .slice none 0 0, .slice none 0 0] ∧ Below w.heap.size w wr) (fun _ jv _ => la - (intOf jv).toNat)
          case atStart => exact ⟨i, by omega, by omega, rfl, rfl, HJ.out, HR.out, HBW.out⟩
          case round =>
            clear HR HBW HJ
            obtain ⟨j, hij, hj, rfl, rfl, hfj, hR, hbw⟩ := hrel
            have HR := Lib.hid hR; have HBW := Lib.hid hbw
            by_cases hltj : j < la
            · obtain ⟨q, hq⟩ : ∃ q, fitF b c (cand2 a b g k i j) = q := ⟨_, rfl⟩
              have HQ := Lib.hid hq
              have vik : IntKind.i64.wrap ((i : Int) + (k : Int)) = ((i + k : Nat) : Int) := (IntWalk.i64_in _ (by omega)).trans (by omega)
              have vjk : IntKind.i64.wrap ((j : Int) + (k : Int)) = ((j + k : Nat) : Int) := (IntWalk.i64_in _ (by omega)).trans (by omega)
              have vjg : IntKind.i64.wrap ((j : Int) + (g : Int)) = ((j + g : Nat) : Int) := (IntWalk.i64_in _ (by omega)).trans (by omega)
              clear hR hbw hq
              go_wp2_with fail
              have EW : ∀ w1, Below wr.drew.heap.size wr.drew w1 → Below w.heap.size w w1 := fun w1 hb => below_chain HBW.out HBW.out.size (below_of_drew hb)
              refine MixA.wp_facts3 31 33 [39, 40, 41, 42, 43, 44, 45, 46, 47, 48, 49, 50, 51, 52, 53, 54, 55, 56, 57, 58, 59, 60, 61, 62, 63, 64, 65, 66, 67, 38, 68, 69, 14] [[], [], [], [], [], [3, 4], [], [], [], [], [8, 9], [6, 7, 10], [], [], [], [12, 13, 14], [], [], [], [17, 18], [], [], [20, 21], [16, 19, 22], [], [], [24, 25], [5, 11, 15, 23, 26], [0, 1, 2, 27], [28], [29, 28], [29, 28], []]
                [MixA.fP (.int .i64 s),
                 MixA.fP (.slice (some adb) (la + g) cb),
                 MixA.fP (.slice C lc cc),
                 MixA.fP (.slice (some ada) la ca),
                 MixA.fP (.int .i64 i),
                 MixA.fP (.slice (some ada) i ca),
                 MixA.fP (.slice (some adb) (la + g) cb),
                 MixA.fP (.int .i64 i),
                 MixA.fP (.int .i64 i),
                 MixA.fP (.int .i64 k),
                 MixA.fP (.int .i64 ((i : Int) + (k : Int))),
                 MixA.fP (.slice (some (adb.add i)) k (cb - i)),
                 MixA.fP (.slice (some ada) la ca),
                 MixA.fP (.int .i64 i),
                 MixA.fP (.int .i64 j),
                 MixA.fP (.slice (some (ada.add i)) (j - i) (ca - i)),
                 MixA.fP (.slice (some adb) (la + g) cb),
                 MixA.fP (.int .i64 j),
                 MixA.fP (.int .i64 k),
                 MixA.fP (.int .i64 ((j : Int) + (k : Int))),
                 MixA.fP (.int .i64 j),
                 MixA.fP (.int .i64 g),
                 MixA.fP (.int .i64 ((j : Int) + (g : Int))),
                 MixA.fP (.slice (some (adb.add (j + k))) (j + g - (j + k)) (cb - (j + k))),
                 MixA.fP (.slice (some ada) la ca),
                 MixA.fP (.int .i64 j),
                 MixA.fP (.slice (some (ada.add j)) (la - j) (ca - j)),
                 MixA.fC 25 5 #[.slice (some ada) i ca, .slice (some (adb.add i)) k (cb - i), .slice (some (ada.add i)) (j - i) (ca - i), .slice (some (adb.add (j + k))) (j + g - (j + k)) (cb - (j + k)), .slice (some (ada.add j)) (la - j) (ca - j)],
                 fF s (cand2 a b g k i j) q,
                 MixA.fM,
                 MixA.fX 0,
                 MixA.fX 1,
                 MixA.fB 29 #[i64 0, i64 0, i64 0, .slice none 0 0, .slice none 0 0, .slice none 0 0]]
                (by kernel_rfl) (by kernel_rfl) (fun t ht => Nat.lt_of_lt_of_eq (show t < 74 by revert t; decide) rfl) ?_ ?_ ?_
              · intro f hf
                simp only [List.mem_cons, List.not_mem_nil, or_false] at hf
                rcases hf with rfl | rfl | rfl | rfl | rfl | rfl | rfl | rfl | rfl | rfl | rfl | rfl | rfl | rfl | rfl | rfl | rfl | rfl | rfl | rfl | rfl | rfl | rfl | rfl | rfl | rfl | rfl | rfl | rfl | rfl | rfl | rfl | rfl
                · exact MixA.fP_st _
                · exact MixA.fP_st _
                · exact MixA.fP_st _
                · exact MixA.fP_st _
                · exact MixA.fP_st _
                · exact MixA.fP_st _
                · exact MixA.fP_st _
                · exact MixA.fP_st _
                · exact MixA.fP_st _
                · exact MixA.fP_st _
                · exact MixA.fP_st _
                · exact MixA.fP_st _
                · exact MixA.fP_st _
                · exact MixA.fP_st _
                · exact MixA.fP_st _
                · exact MixA.fP_st _
                · exact MixA.fP_st _
                · exact MixA.fP_st _
                · exact MixA.fP_st _
                · exact MixA.fP_st _
                · exact MixA.fP_st _
                · exact MixA.fP_st _
                · exact MixA.fP_st _
                · exact MixA.fP_st _
                · exact MixA.fP_st _
                · exact MixA.fP_st _
                · exact MixA.fP_st _
                · exact MixA.fC_st _ _ _
                · exact fF_st _ _ _
                · exact MixA.fM_st
                · exact MixA.fX_st _
                · exact MixA.fX_st _
                · exact MixA.fB_st _ _
              · intro oe hoe a1 w1 hf
                obtain rfl := Option.some.inj hoe
                obtain ⟨R, hR, _⟩ := hf.facts
                have e38 : MixA.val a1 38 = MixA.val a1 67 := (hR 29 (by decide)).1
                obtain ⟨A0, n0, c0, its0, A1, n1, c1, its1, A2, n2, c2, hv67, _⟩ : fF s (cand2 a b g k i j) q [] (MixA.val a1 67) (R 28).1 (R 28).2 w1 := (hR 28 (by decide)).1
                have hv38 := e38.trans hv67
                refine ⟨.bool q, fun w' => ?_, ⟨_, hv38, rfl⟩⟩
                have hev : a1.eval (.tmp 38) = _ := hv38
                simp only [execOp, hev]
                simp [go_sem]
              simp only [MixA.EachG]
              refine ⟨?_, ?_, ?_, ?_, ?_, ?_, ?_, ?_, ?_, ?_, ?_, ?_, ?_, ?_, ?_, ?_, ?_, ?_, ?_, ?_, ?_, ?_, ?_, ?_, ?_, ?_, ?_, ?_, ?_, ?_, ?_, ?_, ?_, ?_⟩
              · intro a1 w1 hf
                refine MixA.hop ⟨#[(.int .i64 s), undef, undef, undef, undef, undef, undef, undef, undef, undef, undef, undef, undef, undef, undef, undef, undef, undef, undef, undef, undef, undef, undef, undef, undef, undef, undef, undef, undef, undef, undef, undef, undef, undef, undef, undef, undef, undef, undef, undef], []⟩ (by intro cs b e; cases e) rfl (show 39 < 40 by decide) ?_ ?_
                · intro x hx
                  simp [Op.operands] at hx
                  rcases hx with rfl
                  · exact (hf.was (t := 0) (by decide) rfl).trans rfl
                go_wp2_with fail
                first | exact ⟨below_size, rfl⟩ | exact ⟨_, rfl, below_size, rfl⟩
              · intro a1 w1 hf
                refine MixA.hop ⟨#[undef, undef, (.slice (some adb) (la + g) cb), undef, undef, undef, undef, undef, undef, undef, undef, undef, undef, undef, undef, undef, undef, undef, undef, undef, undef, undef, undef, undef, undef, undef, undef, undef, undef, undef, undef, undef, undef, undef, undef, undef, undef, undef, undef, undef, undef], []⟩ (by intro cs b e; cases e) rfl (show 40 < 41 by decide) ?_ ?_
                · intro x hx
                  simp [Op.operands] at hx
                  rcases hx with rfl
                  · exact (hf.was (t := 2) (by decide) rfl).trans rfl
                go_wp2_with fail
                first | exact ⟨below_size, rfl⟩ | exact ⟨_, rfl, below_size, rfl⟩
              · intro a1 w1 hf
                refine MixA.hop ⟨#[undef, undef, undef, (.slice C lc cc), undef, undef, undef, undef, undef, undef, undef, undef, undef, undef, undef, undef, undef, undef, undef, undef, undef, undef, undef, undef, undef, undef, undef, undef, undef, undef, undef, undef, undef, undef, undef, undef, undef, undef, undef, undef, undef, undef], []⟩ (by intro cs b e; cases e) rfl (show 41 < 42 by decide) ?_ ?_
                · intro x hx
                  simp [Op.operands] at hx
                  rcases hx with rfl
                  · exact (hf.was (t := 3) (by decide) rfl).trans rfl
                go_wp2_with fail
                first | exact ⟨below_size, rfl⟩ | exact ⟨_, rfl, below_size, rfl⟩
              · intro a1 w1 hf
                refine MixA.hop ⟨#[undef, (.slice (some ada) la ca), undef, undef, undef, undef, undef, undef, undef, undef, undef, undef, undef, undef, undef, undef, undef, undef, undef, undef, undef, undef, undef, undef, undef, undef, undef, undef, undef, undef, undef, undef, undef, undef, undef, undef, undef, undef, undef, undef, undef, undef, undef], []⟩ (by intro cs b e; cases e) rfl (show 42 < 43 by decide) ?_ ?_
                · intro x hx
                  simp [Op.operands] at hx
                  rcases hx with rfl
                  · exact (hf.was (t := 1) (by decide) rfl).trans rfl
                go_wp2_with fail
                first | exact ⟨below_size, rfl⟩ | exact ⟨_, rfl, below_size, rfl⟩
              · intro a1 w1 hf
                refine MixA.hop ⟨#[undef, undef, undef, undef, undef, undef, undef, undef, undef, undef, undef, undef, (.int .i64 i), undef, undef, undef, undef, undef, undef, undef, undef, undef, undef, undef, undef, undef, undef, undef, undef, undef, undef, undef, undef, undef, undef, undef, undef, undef, undef, undef, undef, undef, undef, undef], []⟩ (by intro cs b e; cases e) rfl (show 43 < 44 by decide) ?_ ?_
                · intro x hx
                  simp [Op.operands] at hx
                  rcases hx with rfl
                  · exact (hf.was (t := 12) (by decide) rfl).trans rfl
                go_wp2_with fail
                first | exact ⟨below_size, rfl⟩ | exact ⟨_, rfl, below_size, rfl⟩
              · intro a1 w1 hf
                refine MixA.hop ⟨#[undef, undef, undef, undef, undef, undef, undef, undef, undef, undef, undef, undef, undef, undef, undef, undef, undef, undef, undef, undef, undef, undef, undef, undef, undef, undef, undef, undef, undef, undef, undef, undef, undef, undef, undef, undef, undef, undef, undef, undef, undef, undef, (.slice (some ada) la ca), (.int .i64 i), undef], []⟩ (by intro cs b e; cases e) rfl (show 44 < 45 by decide) ?_ ?_
                · intro x hx
                  simp [Op.operands] at hx
                  rcases hx with rfl | rfl
                  · exact (hf.pure (j := 3) (by decide) rfl).trans rfl
                  · exact (hf.pure (j := 4) (by decide) rfl).trans rfl
                go_wp2_with fail
                first | exact ⟨below_size, rfl⟩ | exact ⟨_, rfl, below_size, rfl⟩
              · intro a1 w1 hf
                refine MixA.hop ⟨#[undef, undef, (.slice (some adb) (la + g) cb), undef, undef, undef, undef, undef, undef, undef, undef, undef, undef, undef, undef, undef, undef, undef, undef, undef, undef, undef, undef, undef, undef, undef, undef, undef, undef, undef, undef, undef, undef, undef, undef, undef, undef, undef, undef, undef, undef, undef, undef, undef, undef, undef], []⟩ (by intro cs b e; cases e) rfl (show 45 < 46 by decide) ?_ ?_
                · intro x hx
                  simp [Op.operands] at hx
                  rcases hx with rfl
                  · exact (hf.was (t := 2) (by decide) rfl).trans rfl
                go_wp2_with fail
                first | exact ⟨below_size, rfl⟩ | exact ⟨_, rfl, below_size, rfl⟩
              · intro a1 w1 hf
                refine MixA.hop ⟨#[undef, undef, undef, undef, undef, undef, undef, undef, undef, undef, undef, undef, (.int .i64 i), undef, undef, undef, undef, undef, undef, undef, undef, undef, undef, undef, undef, undef, undef, undef, undef, undef, undef, undef, undef, undef, undef, undef, undef, undef, undef, undef, undef, undef, undef, undef, undef, undef, undef], []⟩ (by intro cs b e; cases e) rfl (show 46 < 47 by decide) ?_ ?_
                · intro x hx
                  simp [Op.operands] at hx
                  rcases hx with rfl
                  · exact (hf.was (t := 12) (by decide) rfl).trans rfl
                go_wp2_with fail
                first | exact ⟨below_size, rfl⟩ | exact ⟨_, rfl, below_size, rfl⟩
              · intro a1 w1 hf
                refine MixA.hop ⟨#[undef, undef, undef, undef, undef, undef, undef, undef, undef, undef, undef, undef, (.int .i64 i), undef, undef, undef, undef, undef, undef, undef, undef, undef, undef, undef, undef, undef, undef, undef, undef, undef, undef, undef, undef, undef, undef, undef, undef, undef, undef, undef, undef, undef, undef, undef, undef, undef, undef, undef], []⟩ (by intro cs b e; cases e) rfl (show 47 < 48 by decide) ?_ ?_
                · intro x hx
                  simp [Op.operands] at hx
                  rcases hx with rfl
                  · exact (hf.was (t := 12) (by decide) rfl).trans rfl
                go_wp2_with fail
                first | exact ⟨below_size, rfl⟩ | exact ⟨_, rfl, below_size, rfl⟩
              · intro a1 w1 hf
                refine MixA.hop ⟨#[undef, undef, undef, undef, undef, undef, undef, undef, undef, undef, undef, (.int .i64 k), undef, undef, undef, undef, undef, undef, undef, undef, undef, undef, undef, undef, undef, undef, undef, undef, undef, undef, undef, undef, undef, undef, undef, undef, undef, undef, undef, undef, undef, undef, undef, undef, undef, undef, undef, undef, undef], []⟩ (by intro cs b e; cases e) rfl (show 48 < 49 by decide) ?_ ?_
                · intro x hx
                  simp [Op.operands] at hx
                  rcases hx with rfl
                  · exact (hf.was (t := 11) (by decide) rfl).trans rfl
                go_wp2_with fail
                first | exact ⟨below_size, rfl⟩ | exact ⟨_, rfl, below_size, rfl⟩
              · intro a1 w1 hf
                refine MixA.hop ⟨#[undef, undef, undef, undef, undef, undef, undef, undef, undef, undef, undef, undef, undef, undef, undef, undef, undef, undef, undef, undef, undef, undef, undef, undef, undef, undef, undef, undef, undef, undef, undef, undef, undef, undef, undef, undef, undef, undef, undef, undef, undef, undef, undef, undef, undef, undef, undef, (.int .i64 i), (.int .i64 k), undef], []⟩ (by intro cs b e; cases e) rfl (show 49 < 50 by decide) ?_ ?_
                · intro x hx
                  simp [Op.operands] at hx
                  rcases hx with rfl | rfl
                  · exact (hf.pure (j := 8) (by decide) rfl).trans rfl
                  · exact (hf.pure (j := 9) (by decide) rfl).trans rfl
                go_wp2_with fail
                first | exact ⟨below_size, rfl⟩ | exact ⟨_, rfl, below_size, rfl⟩
              · intro a1 w1 hf
                refine MixA.hop ⟨#[undef, undef, undef, undef, undef, undef, undef, undef, undef, undef, undef, undef, undef, undef, undef, undef, undef, undef, undef, undef, undef, undef, undef, undef, undef, undef, undef, undef, undef, undef, undef, undef, undef, undef, undef, undef, undef, undef, undef, undef, undef, undef, undef, undef, undef, (.slice (some adb) (la + g) cb), (.int .i64 i), undef, undef, (.int .i64 ((i : Int) + (k : Int))), undef], []⟩ (by intro cs b e; cases e) rfl (show 50 < 51 by decide) ?_ ?_
                · intro x hx
                  simp [Op.operands] at hx
                  rcases hx with rfl | rfl | rfl
                  · exact (hf.pure (j := 6) (by decide) rfl).trans rfl
                  · exact (hf.pure (j := 7) (by decide) rfl).trans rfl
                  · exact (hf.pure (j := 10) (by decide) rfl).trans rfl
                go_wp2_with fail
                first | exact ⟨below_size, rfl⟩ | exact ⟨_, rfl, below_size, rfl⟩
              · intro a1 w1 hf
                refine MixA.hop ⟨#[undef, (.slice (some ada) la ca), undef, undef, undef, undef, undef, undef, undef, undef, undef, undef, undef, undef, undef, undef, undef, undef, undef, undef, undef, undef, undef, undef, undef, undef, undef, undef, undef, undef, undef, undef, undef, undef, undef, undef, undef, undef, undef, undef, undef, undef, undef, undef, undef, undef, undef, undef, undef, undef, undef, undef], []⟩ (by intro cs b e; cases e) rfl (show 51 < 52 by decide) ?_ ?_
                · intro x hx
                  simp [Op.operands] at hx
                  rcases hx with rfl
                  · exact (hf.was (t := 1) (by decide) rfl).trans rfl
                go_wp2_with fail
                first | exact ⟨below_size, rfl⟩ | exact ⟨_, rfl, below_size, rfl⟩
              · intro a1 w1 hf
                refine MixA.hop ⟨#[undef, undef, undef, undef, undef, undef, undef, undef, undef, undef, undef, undef, (.int .i64 i), undef, undef, undef, undef, undef, undef, undef, undef, undef, undef, undef, undef, undef, undef, undef, undef, undef, undef, undef, undef, undef, undef, undef, undef, undef, undef, undef, undef, undef, undef, undef, undef, undef, undef, undef, undef, undef, undef, undef, undef], []⟩ (by intro cs b e; cases e) rfl (show 52 < 53 by decide) ?_ ?_
                · intro x hx
                  simp [Op.operands] at hx
                  rcases hx with rfl
                  · exact (hf.was (t := 12) (by decide) rfl).trans rfl
                go_wp2_with fail
                first | exact ⟨below_size, rfl⟩ | exact ⟨_, rfl, below_size, rfl⟩
              · intro a1 w1 hf
                refine MixA.hop ⟨#[undef, undef, undef, undef, undef, undef, undef, undef, undef, undef, undef, undef, undef, (.int .i64 j), undef, undef, undef, undef, undef, undef, undef, undef, undef, undef, undef, undef, undef, undef, undef, undef, undef, undef, undef, undef, undef, undef, undef, undef, undef, undef, undef, undef, undef, undef, undef, undef, undef, undef, undef, undef, undef, undef, undef, undef], []⟩ (by intro cs b e; cases e) rfl (show 53 < 54 by decide) ?_ ?_
                · intro x hx
                  simp [Op.operands] at hx
                  rcases hx with rfl
                  · exact (hf.was (t := 13) (by decide) rfl).trans rfl
                go_wp2_with fail
                first | exact ⟨below_size, rfl⟩ | exact ⟨_, rfl, below_size, rfl⟩
              · intro a1 w1 hf
                refine MixA.hop ⟨#[undef, undef, undef, undef, undef, undef, undef, undef, undef, undef, undef, undef, undef, undef, undef, undef, undef, undef, undef, undef, undef, undef, undef, undef, undef, undef, undef, undef, undef, undef, undef, undef, undef, undef, undef, undef, undef, undef, undef, undef, undef, undef, undef, undef, undef, undef, undef, undef, undef, undef, undef, (.slice (some ada) la ca), (.int .i64 i), (.int .i64 j), undef], []⟩ (by intro cs b e; cases e) rfl (show 54 < 55 by decide) ?_ ?_
                · intro x hx
                  simp [Op.operands] at hx
                  rcases hx with rfl | rfl | rfl
                  · exact (hf.pure (j := 12) (by decide) rfl).trans rfl
                  · exact (hf.pure (j := 13) (by decide) rfl).trans rfl
                  · exact (hf.pure (j := 14) (by decide) rfl).trans rfl
                go_wp2_with fail
                first | exact ⟨below_size, rfl⟩ | exact ⟨_, rfl, below_size, rfl⟩
              · intro a1 w1 hf
                refine MixA.hop ⟨#[undef, undef, (.slice (some adb) (la + g) cb), undef, undef, undef, undef, undef, undef, undef, undef, undef, undef, undef, undef, undef, undef, undef, undef, undef, undef, undef, undef, undef, undef, undef, undef, undef, undef, undef, undef, undef, undef, undef, undef, undef, undef, undef, undef, undef, undef, undef, undef, undef, undef, undef, undef, undef, undef, undef, undef, undef, undef, undef, undef, undef], []⟩ (by intro cs b e; cases e) rfl (show 55 < 56 by decide) ?_ ?_
                · intro x hx
                  simp [Op.operands] at hx
                  rcases hx with rfl
                  · exact (hf.was (t := 2) (by decide) rfl).trans rfl
                go_wp2_with fail
                first | exact ⟨below_size, rfl⟩ | exact ⟨_, rfl, below_size, rfl⟩
              · intro a1 w1 hf
                refine MixA.hop ⟨#[undef, undef, undef, undef, undef, undef, undef, undef, undef, undef, undef, undef, undef, (.int .i64 j), undef, undef, undef, undef, undef, undef, undef, undef, undef, undef, undef, undef, undef, undef, undef, undef, undef, undef, undef, undef, undef, undef, undef, undef, undef, undef, undef, undef, undef, undef, undef, undef, undef, undef, undef, undef, undef, undef, undef, undef, undef, undef, undef], []⟩ (by intro cs b e; cases e) rfl (show 56 < 57 by decide) ?_ ?_
                · intro x hx
                  simp [Op.operands] at hx
                  rcases hx with rfl
                  · exact (hf.was (t := 13) (by decide) rfl).trans rfl
                go_wp2_with fail
                first | exact ⟨below_size, rfl⟩ | exact ⟨_, rfl, below_size, rfl⟩
              · intro a1 w1 hf
                refine MixA.hop ⟨#[undef, undef, undef, undef, undef, undef, undef, undef, undef, undef, undef, (.int .i64 k), undef, undef, undef, undef, undef, undef, undef, undef, undef, undef, undef, undef, undef, undef, undef, undef, undef, undef, undef, undef, undef, undef, undef, undef, undef, undef, undef, undef, undef, undef, undef, undef, undef, undef, undef, undef, undef, undef, undef, undef, undef, undef, undef, undef, undef, undef], []⟩ (by intro cs b e; cases e) rfl (show 57 < 58 by decide) ?_ ?_
                · intro x hx
                  simp [Op.operands] at hx
                  rcases hx with rfl
                  · exact (hf.was (t := 11) (by decide) rfl).trans rfl
                go_wp2_with fail
                first | exact ⟨below_size, rfl⟩ | exact ⟨_, rfl, below_size, rfl⟩
              · intro a1 w1 hf
                refine MixA.hop ⟨#[undef, undef, undef, undef, undef, undef, undef, undef, undef, undef, undef, undef, undef, undef, undef, undef, undef, undef, undef, undef, undef, undef, undef, undef, undef, undef, undef, undef, undef, undef, undef, undef, undef, undef, undef, undef, undef, undef, undef, undef, undef, undef, undef, undef, undef, undef, undef, undef, undef, undef, undef, undef, undef, undef, undef, undef, (.int .i64 j), (.int .i64 k), undef], []⟩ (by intro cs b e; cases e) rfl (show 58 < 59 by decide) ?_ ?_
                · intro x hx
                  simp [Op.operands] at hx
                  rcases hx with rfl | rfl
                  · exact (hf.pure (j := 17) (by decide) rfl).trans rfl
                  · exact (hf.pure (j := 18) (by decide) rfl).trans rfl
                go_wp2_with fail
                first | exact ⟨below_size, rfl⟩ | exact ⟨_, rfl, below_size, rfl⟩
              · intro a1 w1 hf
                refine MixA.hop ⟨#[undef, undef, undef, undef, undef, undef, undef, undef, undef, undef, undef, undef, undef, (.int .i64 j), undef, undef, undef, undef, undef, undef, undef, undef, undef, undef, undef, undef, undef, undef, undef, undef, undef, undef, undef, undef, undef, undef, undef, undef, undef, undef, undef, undef, undef, undef, undef, undef, undef, undef, undef, undef, undef, undef, undef, undef, undef, undef, undef, undef, undef, undef], []⟩ (by intro cs b e; cases e) rfl (show 59 < 60 by decide) ?_ ?_
                · intro x hx
                  simp [Op.operands] at hx
                  rcases hx with rfl
                  · exact (hf.was (t := 13) (by decide) rfl).trans rfl
                go_wp2_with fail
                first | exact ⟨below_size, rfl⟩ | exact ⟨_, rfl, below_size, rfl⟩
              · intro a1 w1 hf
                refine MixA.hop ⟨#[undef, undef, undef, undef, undef, undef, undef, undef, undef, undef, (.int .i64 g), undef, undef, undef, undef, undef, undef, undef, undef, undef, undef, undef, undef, undef, undef, undef, undef, undef, undef, undef, undef, undef, undef, undef, undef, undef, undef, undef, undef, undef, undef, undef, undef, undef, undef, undef, undef, undef, undef, undef, undef, undef, undef, undef, undef, undef, undef, undef, undef, undef, undef], []⟩ (by intro cs b e; cases e) rfl (show 60 < 61 by decide) ?_ ?_
                · intro x hx
                  simp [Op.operands] at hx
                  rcases hx with rfl
                  · exact (hf.was (t := 10) (by decide) rfl).trans rfl
                go_wp2_with fail
                first | exact ⟨below_size, rfl⟩ | exact ⟨_, rfl, below_size, rfl⟩
              · intro a1 w1 hf
                refine MixA.hop ⟨#[undef, undef, undef, undef, undef, undef, undef, undef, undef, undef, undef, undef, undef, undef, undef, undef, undef, undef, undef, undef, undef, undef, undef, undef, undef, undef, undef, undef, undef, undef, undef, undef, undef, undef, undef, undef, undef, undef, undef, undef, undef, undef, undef, undef, undef, undef, undef, undef, undef, undef, undef, undef, undef, undef, undef, undef, undef, undef, undef, (.int .i64 j), (.int .i64 g), undef], []⟩ (by intro cs b e; cases e) rfl (show 61 < 62 by decide) ?_ ?_
                · intro x hx
                  simp [Op.operands] at hx
                  rcases hx with rfl | rfl
                  · exact (hf.pure (j := 20) (by decide) rfl).trans rfl
                  · exact (hf.pure (j := 21) (by decide) rfl).trans rfl
                go_wp2_with fail
                first | exact ⟨below_size, rfl⟩ | exact ⟨_, rfl, below_size, rfl⟩
              · intro a1 w1 hf
                refine MixA.hop ⟨#[undef, undef, undef, undef, undef, undef, undef, undef, undef, undef, undef, undef, undef, undef, undef, undef, undef, undef, undef, undef, undef, undef, undef, undef, undef, undef, undef, undef, undef, undef, undef, undef, undef, undef, undef, undef, undef, undef, undef, undef, undef, undef, undef, undef, undef, undef, undef, undef, undef, undef, undef, undef, undef, undef, undef, (.slice (some adb) (la + g) cb), undef, undef, (.int .i64 ((j : Int) + (k : Int))), undef, undef, (.int .i64 ((j : Int) + (g : Int))), undef], []⟩ (by intro cs b e; cases e) rfl (show 62 < 63 by decide) ?_ ?_
                · intro x hx
                  simp [Op.operands] at hx
                  rcases hx with rfl | rfl | rfl
                  · exact (hf.pure (j := 16) (by decide) rfl).trans rfl
                  · exact (hf.pure (j := 19) (by decide) rfl).trans rfl
                  · exact (hf.pure (j := 22) (by decide) rfl).trans rfl
                go_wp2_with fail
                first | exact ⟨below_size, rfl⟩ | exact ⟨_, rfl, below_size, rfl⟩
              · intro a1 w1 hf
                refine MixA.hop ⟨#[undef, (.slice (some ada) la ca), undef, undef, undef, undef, undef, undef, undef, undef, undef, undef, undef, undef, undef, undef, undef, undef, undef, undef, undef, undef, undef, undef, undef, undef, undef, undef, undef, undef, undef, undef, undef, undef, undef, undef, undef, undef, undef, undef, undef, undef, undef, undef, undef, undef, undef, undef, undef, undef, undef, undef, undef, undef, undef, undef, undef, undef, undef, undef, undef, undef, undef, undef], []⟩ (by intro cs b e; cases e) rfl (show 63 < 64 by decide) ?_ ?_
                · intro x hx
                  simp [Op.operands] at hx
                  rcases hx with rfl
                  · exact (hf.was (t := 1) (by decide) rfl).trans rfl
                go_wp2_with fail
                first | exact ⟨below_size, rfl⟩ | exact ⟨_, rfl, below_size, rfl⟩
              · intro a1 w1 hf
                refine MixA.hop ⟨#[undef, undef, undef, undef, undef, undef, undef, undef, undef, undef, undef, undef, undef, (.int .i64 j), undef, undef, undef, undef, undef, undef, undef, undef, undef, undef, undef, undef, undef, undef, undef, undef, undef, undef, undef, undef, undef, undef, undef, undef, undef, undef, undef, undef, undef, undef, undef, undef, undef, undef, undef, undef, undef, undef, undef, undef, undef, undef, undef, undef, undef, undef, undef, undef, undef, undef, undef], []⟩ (by intro cs b e; cases e) rfl (show 64 < 65 by decide) ?_ ?_
                · intro x hx
                  simp [Op.operands] at hx
                  rcases hx with rfl
                  · exact (hf.was (t := 13) (by decide) rfl).trans rfl
                go_wp2_with fail
                first | exact ⟨below_size, rfl⟩ | exact ⟨_, rfl, below_size, rfl⟩
              · intro a1 w1 hf
                refine MixA.hop ⟨#[undef, undef, undef, undef, undef, undef, undef, undef, undef, undef, undef, undef, undef, undef, undef, undef, undef, undef, undef, undef, undef, undef, undef, undef, undef, undef, undef, undef, undef, undef, undef, undef, undef, undef, undef, undef, undef, undef, undef, undef, undef, undef, undef, undef, undef, undef, undef, undef, undef, undef, undef, undef, undef, undef, undef, undef, undef, undef, undef, undef, undef, undef, undef, (.slice (some ada) la ca), (.int .i64 j), undef], []⟩ (by intro cs b e; cases e) rfl (show 65 < 66 by decide) ?_ ?_
                · intro x hx
                  simp [Op.operands] at hx
                  rcases hx with rfl | rfl
                  · exact (hf.pure (j := 24) (by decide) rfl).trans rfl
                  · exact (hf.pure (j := 25) (by decide) rfl).trans rfl
                go_wp2_with fail
                first | exact ⟨below_size, rfl⟩ | exact ⟨_, rfl, below_size, rfl⟩
              · intro a1 w1 hf
                refine MixA.hop ⟨#[undef, undef, undef, undef, undef, undef, undef, undef, undef, undef, undef, undef, undef, undef, undef, undef, undef, undef, undef, undef, undef, undef, undef, undef, undef, undef, undef, undef, undef, undef, undef, undef, undef, undef, undef, undef, undef, undef, undef, undef, undef, undef, undef, undef, (.slice (some ada) i ca), undef, undef, undef, undef, undef, (.slice (some (adb.add i)) k (cb - i)), undef, undef, undef, (.slice (some (ada.add i)) (j - i) (ca - i)), undef, undef, undef, undef, undef, undef, undef, (.slice (some (adb.add (j + k))) (j + g - (j + k)) (cb - (j + k))), undef, undef, (.slice (some (ada.add j)) (la - j) (ca - j)), undef], []⟩ (by intro cs b e; cases e) rfl (show 66 < 67 by decide) ?_ ?_
                · intro x hx
                  simp [Op.operands] at hx
                  rcases hx with rfl | rfl | rfl | rfl | rfl
                  · exact (hf.pure (j := 5) (by decide) rfl).trans rfl
                  · exact (hf.pure (j := 11) (by decide) rfl).trans rfl
                  · exact (hf.pure (j := 15) (by decide) rfl).trans rfl
                  · exact (hf.pure (j := 23) (by decide) rfl).trans rfl
                  · exact (hf.pure (j := 26) (by decide) rfl).trans rfl
                go_wp2_with fail
                first | exact ⟨below_size.alloc (Nat.le_refl _) _, w1.heap.size, rfl, Nat.le_refl _, by simp, Blk.new w1 _ _⟩ | exact ⟨_, rfl, below_size.alloc (Nat.le_refl _) _, w1.heap.size, rfl, Nat.le_refl _, by simp, Blk.new w1 _ _⟩
              · intro a1 w1 hf
                obtain ⟨R, hR, _⟩ := hf.facts
                obtain ⟨g66, hv66, _, _, h66⟩ : ∃ g', MixA.val a1 66 = .slice (some ⟨g', 0, none⟩) 5 5 ∧ (R 27).1 ≤ g' ∧ g' < (R 27).2 ∧ Blk w1 g' 25 #[.slice (some ada) i ca, .slice (some (adb.add i)) k (cb - i), .slice (some (ada.add i)) (j - i) (ca - i), .slice (some (adb.add (j + k))) (j + g - (j + k)) (cb - (j + k)), .slice (some (ada.add j)) (la - j) (ca - j)] := (hR 27 (by decide)).1
                have E1 := EW w1 hf.below
                have egk : j + g - (j + k) = g - k := by omega
                have HP := Lib.hid (rdII5 (a := ⟨some ada, i, ca, a.take i⟩) (b := ⟨some (adb.add i), k, cb - i, (b.drop i).take k⟩) (c := ⟨some (ada.add i), j - i, ca - i, (a.drop i).take (j - i)⟩) (d := ⟨some (adb.add (j + k)), j + g - (j + k), cb - (j + k), (b.drop (j + k)).take (g - k)⟩) (e := ⟨some (ada.add j), la - j, ca - j, a.drop j⟩) h66
                  ((RdI.below HA.out E1).take (by omega)) (show RdI w1 (some (adb.add i)) k ((b.drop i).take k) from (RdI.below HB.out E1).mid (by omega)) (show RdI w1 (some (ada.add i)) (j - i) ((a.drop i).take (j - i)) from (RdI.below HA.out E1).mid (by omega)) (by show RdI w1 (some (adb.add (j + k))) (j + g - (j + k)) _; rw [egk]; exact (RdI.below HB.out E1).mid (by omega)) ((RdI.below HA.out E1).drop (by omega)))
                have HE1 := Lib.hid E1
                clear hR h66 E1 egk
                refine MixA.hop ⟨#[undef, undef, undef, undef, undef, undef, undef, undef, undef, undef, undef, undef, undef, undef, undef, undef, undef, undef, undef, undef, undef, undef, undef, undef, undef, undef, undef, undef, undef, undef, undef, undef, undef, undef, undef, undef, undef, undef, undef, (.int .i64 s), (.slice (some adb) (la + g) cb), (.slice C lc cc), undef, undef, undef, undef, undef, undef, undef, undef, undef, undef, undef, undef, undef, undef, undef, undef, undef, undef, undef, undef, undef, undef, undef, undef, (.slice (some ⟨g66, 0, none⟩) 5 5), undef], []⟩ (by intro cs b e; cases e) rfl (show 67 < 68 by decide) ?_ ?_
                · intro x hx
                  simp [Op.operands, Call.operands] at hx
                  rcases hx with rfl | rfl | rfl | rfl | rfl
                  · rfl
                  · exact (hf.pure (j := 0) (by decide) rfl).trans rfl
                  · exact (hf.pure (j := 1) (by decide) rfl).trans rfl
                  · exact (hf.pure (j := 2) (by decide) rfl).trans rfl
                  · exact hv66.trans rfl
                go_wp2_with fail
                refine (bounced_c s (some adb) C (some ⟨g66, 0, none⟩) (la + g) cb lc cc 5 5 b c _ _ (by exact RdI.below HB.out HE1.out) (by exact RdI.below HC.out HE1.out) HP.out (by omega) (by intro t ht; simp at ht; rcases ht with rfl | rfl | rfl | rfl | rfl <;> (simp; omega)) (by omega) (by omega) rfl).mono ?_
                rintro e w2 ⟨A0, n0, c0, its0, A1, n1, c1, its1, A2, n2, c2, rfl, ⟨hS, h1, h2, h3, h4, h5, h6, h7⟩, hb2⟩
                have hq2 : (decide (oneP [a.take i, (b.drop i).take k, (a.drop i).take (j - i), (b.drop (j + k)).take (g - k), a.drop j] = b) && decide (dblP true [a.take i, (b.drop i).take k, (a.drop i).take (j - i), (b.drop (j + k)).take (g - k), a.drop j] = c)) = q := (fit5 _ _ _ _ _ _ _).trans HQ.out
                have S2 := Lib.hid hS; have B2 := Lib.hid hb2; have X2 := Lib.hid (And.intro h1 (And.intro h2 (And.intro h3 (And.intro h4 (And.intro h5 (And.intro h6 h7))))))
                simp only [List.map_cons, List.map_nil, hq2]
                clear hS hb2 h1 h2 h3 h4 h5 h6 h7 hq2
                go_wp2_with fail
                exact ⟨B2.out, A0, n0, c0, its0, A1, n1, c1, its1, A2, n2, c2, rfl, S2.out, X2.out⟩
              · intro a1 w1 hf
                obtain ⟨v67, hv67⟩ : ∃ v, MixA.val a1 67 = v := ⟨_, rfl⟩
                refine MixA.hop ⟨#[undef, undef, undef, undef, undef, undef, undef, undef, undef, undef, undef, undef, undef, undef, undef, undef, undef, undef, undef, undef, undef, undef, undef, undef, undef, undef, undef, undef, undef, undef, undef, undef, undef, undef, undef, undef, undef, undef, undef, undef, undef, undef, undef, undef, undef, undef, undef, undef, undef, undef, undef, undef, undef, undef, undef, undef, undef, undef, undef, undef, undef, undef, undef, undef, undef, undef, undef, v67], []⟩ (by intro cs b e; cases e) rfl (show 38 < 68 by decide) ?_ ?_
                · intro x hx
                  simp [Op.operands] at hx
                  rcases hx with rfl
                  · exact hv67.trans rfl
                go_wp2_with fail
                exact ⟨below_size, rfl⟩
              · intro a1 w1 hf
                obtain ⟨R, hR, _⟩ := hf.facts
                have e38 : MixA.val a1 38 = MixA.val a1 67 := (hR 29 (by decide)).1
                obtain ⟨A0, n0, c0, its0, A1, n1, c1, its1, A2, n2, c2, hv67, _⟩ : fF s (cand2 a b g k i j) q [] (MixA.val a1 67) (R 28).1 (R 28).2 w1 := (hR 28 (by decide)).1
                have hv38 := e38.trans hv67
                clear hR e38 hv67
                refine MixA.hop ⟨#[undef, undef, undef, undef, undef, undef, undef, undef, undef, undef, undef, undef, undef, undef, undef, undef, undef, undef, undef, undef, undef, undef, undef, undef, undef, undef, undef, undef, undef, undef, undef, undef, undef, undef, undef, undef, undef, undef, (.tuple #[.agg #[i64 s, i64 (formF s (cand2 a b g k i j)).2.1, i64 (formF s (cand2 a b g k i j)).2.2.1, .slice A0 n0 c0, .slice A1 n1 c1, .slice A2 n2 c2], .bool q]), undef, undef, undef, undef, undef, undef, undef, undef, undef, undef, undef, undef, undef, undef, undef, undef, undef, undef, undef, undef, undef, undef, undef, undef, undef, undef, undef, undef, undef, undef], []⟩ (by intro cs b e; cases e) rfl (show 68 < 69 by decide) ?_ ?_
                · intro x hx
                  simp [Op.operands] at hx
                  rcases hx with rfl
                  · exact hv38.trans rfl
                go_wp2_with fail
                exact ⟨below_size, _, rfl, rfl⟩
              · intro a1 w1 hf
                obtain ⟨R, hR, _⟩ := hf.facts
                have e38 : MixA.val a1 38 = MixA.val a1 67 := (hR 29 (by decide)).1
                obtain ⟨A0, n0, c0, its0, A1, n1, c1, its1, A2, n2, c2, hv67, _⟩ : fF s (cand2 a b g k i j) q [] (MixA.val a1 67) (R 28).1 (R 28).2 w1 := (hR 28 (by decide)).1
                have hv38 := e38.trans hv67
                clear hR e38 hv67
                refine MixA.hop ⟨#[undef, undef, undef, undef, undef, undef, undef, undef, undef, undef, undef, undef, undef, undef, undef, undef, undef, undef, undef, undef, undef, undef, undef, undef, undef, undef, undef, undef, undef, undef, undef, undef, undef, undef, undef, undef, undef, undef, (.tuple #[.agg #[i64 s, i64 (formF s (cand2 a b g k i j)).2.1, i64 (formF s (cand2 a b g k i j)).2.2.1, .slice A0 n0 c0, .slice A1 n1 c1, .slice A2 n2 c2], .bool q]), undef, undef, undef, undef, undef, undef, undef, undef, undef, undef, undef, undef, undef, undef, undef, undef, undef, undef, undef, undef, undef, undef, undef, undef, undef, undef, undef, undef, undef, undef, undef], []⟩ (by intro cs b e; cases e) rfl (show 69 < 70 by decide) ?_ ?_
                · intro x hx
                  simp [Op.operands] at hx
                  rcases hx with rfl
                  · exact hv38.trans rfl
                go_wp2_with fail
                exact ⟨below_size, _, rfl, rfl⟩
              · intro a1 w1 hf
                refine MixA.hop ⟨#[undef, undef, undef, undef, undef, undef, undef, undef, undef, undef, undef, undef, undef, undef, undef], []⟩ (by intro cs b e; cases e) rfl (show 14 < 15 by decide) ?_ ?_
                · intro x hx
                  simp [Op.operands] at hx
                go_wp2_with fail
                first | exact ⟨below_size.alloc (Nat.le_refl _) _, w1.heap.size, rfl, Nat.le_refl _, by simp, Blk.new w1 _ _⟩ | exact ⟨_, rfl, below_size.alloc (Nat.le_refl _) _, w1.heap.size, rfl, Nat.le_refl _, by simp, Blk.new w1 _ _⟩
              · intro a1 w1 hf
                obtain ⟨R, hR, hd⟩ := hf.facts
                have e38 : MixA.val a1 38 = MixA.val a1 67 := (hR 29 (by decide)).1
                obtain ⟨A0, n0, c0, its0, A1, n1, c1, its1, A2, n2, c2, hv67, hS, hx⟩ : fF s (cand2 a b g k i j) q [] (MixA.val a1 67) (R 28).1 (R 28).2 w1 := (hR 28 (by decide)).1
                have hv38 := e38.trans hv67
                obtain ⟨_, e1, hv68⟩ : ∃ xs, MixA.val a1 38 = .tuple xs ∧ xs[0]? = some (MixA.val a1 68) := (hR 30 (by decide)).1
                rw [hv38] at e1; injection e1 with e1; subst e1
                obtain ⟨_, e1, hv69⟩ : ∃ xs, MixA.val a1 38 = .tuple xs ∧ xs[1]? = some (MixA.val a1 69) := (hR 31 (by decide)).1
                rw [hv38] at e1; injection e1 with e1; subst e1
                replace hv68 := (Option.some.inj hv68).symm
                replace hv69 := (Option.some.inj hv69).symm
                obtain ⟨g14, hv14, l14, r14, h14⟩ : ∃ g', MixA.val a1 14 = .pointer (some ⟨g', 0, none⟩) ∧ (R 32).1 ≤ g' ∧ g' < (R 32).2 ∧ Blk w1 g' 29 #[i64 0, i64 0, i64 0, .slice none 0 0, .slice none 0 0, .slice none 0 0] := (hR 32 (by decide)).1
                have b67 := (hR 28 (by decide)).2; have b14 := (hR 32 (by decide)).2
                have w14 : Wr w1 (R 32).1 (R 32).2 (some ⟨g14, 0, none⟩) 6 [i64 0, i64 0, i64 0, .slice none 0 0, .slice none 0 0, .slice none 0 0] := h14.wr l14 r14 rfl (by simp)
                have BX := (WrS.one w14).two (lo := wr.heap.size) (hi := w1.heap.size) hS (hd 32 28 (by decide) (by decide) (by decide)) ⟨b14.1, b14.2.1, b14.2.2⟩ ⟨b67.1, b67.2.1, b67.2.2⟩
                have BS := Lib.hid (box_store (u0 := i64 s) (u1 := i64 (formF s (cand2 a b g k i j)).2.1) (u2 := i64 (formF s (cand2 a b g k i j)).2.2.1) (u3 := .slice A0 n0 c0) (u4 := .slice A1 n1 c1) (u5 := .slice A2 n2 c2) BX h14)
                have HG := Lib.hid (show wr.heap.size ≤ g14 from Nat.le_trans b14.1 l14)
                have HX := Lib.hid hx
                have E1 := Lib.hid (below_of_drew hf.below)
                have m0 := h14.cell 0; have m1 := h14.cell 1; have m2 := h14.cell 2; have m3 := h14.cell 3; have m4 := h14.cell 4; have m5 := h14.cell 5
                have f0 := h14.frozen 0; have f1 := h14.frozen 1; have f2 := h14.frozen 2; have f3 := h14.frozen 3; have f4 := h14.frozen 4; have f5 := h14.frozen 5
                simp at m0 m1 m2 m3 m4 m5
                rw [hf.act]
                clear hR hd hS hx w14 h14 l14 r14 b67 b14 BX EW e38
                simp only [List.foldl_cons, List.foldl_nil, hv67, hv38, hv68, hv69, hv14]
                clear hv67 hv38 hv68 hv69 hv14 hf
                simp only [Act.put, List.setIfInBounds_toArray, List.set_cons_succ, List.set_cons_zero]
                have hgne : w.heap.size ≠ g14 := by have h1 := HG.out; have h2 := HR.out.lt; omega
                have RR := Lib.hid ((((((((HR.out.keep E1.out).far (p := ⟨g14, 0, none⟩) hgne (i64 s)).far (p := ⟨g14, 1, none⟩) hgne (i64 (formF s (cand2 a b g k i j)).2.1)).far (p := ⟨g14, 2, none⟩) hgne (i64 (formF s (cand2 a b g k i j)).2.2.1)).far (p := ⟨g14, 3, none⟩) hgne (.slice A0 n0 c0)).far (p := ⟨g14, 4, none⟩) hgne (.slice A1 n1 c1)).far (p := ⟨g14, 5, none⟩) hgne (.slice A2 n2 c2)))
                have BB := Lib.hid (below_set6 (u0 := i64 s) (u1 := i64 (formF s (cand2 a b g k i j)).2.1) (u2 := i64 (formF s (cand2 a b g k i j)).2.2.1) (u3 := .slice A0 n0 c0) (u4 := .slice A1 n1 c1) (u5 := .slice A2 n2 c2) E1.out HG.out)
                have hsz : ((((((w1.setCell ⟨g14, 0, none⟩ (i64 s)).setCell ⟨g14, 1, none⟩ (i64 (formF s (cand2 a b g k i j)).2.1)).setCell ⟨g14, 2, none⟩ (i64 (formF s (cand2 a b g k i j)).2.2.1)).setCell ⟨g14, 3, none⟩ (.slice A0 n0 c0)).setCell ⟨g14, 4, none⟩ (.slice A1 n1 c1)).setCell ⟨g14, 5, none⟩ (.slice A2 n2 c2)).heap.size = w1.heap.size := by simp
                obtain ⟨w2, hw2⟩ : ∃ w2, (((((w1.setCell ⟨g14, 0, none⟩ (i64 s)).setCell ⟨g14, 1, none⟩ (i64 (formF s (cand2 a b g k i j)).2.1)).setCell ⟨g14, 2, none⟩ (i64 (formF s (cand2 a b g k i j)).2.2.1)).setCell ⟨g14, 3, none⟩ (.slice A0 n0 c0)).setCell ⟨g14, 4, none⟩ (.slice A1 n1 c1)).setCell ⟨g14, 5, none⟩ (.slice A2 n2 c2) = w2 := ⟨_, rfl⟩
                rw [hw2] at BS RR BB hsz
                have FR := Lib.hid (show FoR (formF s (cand2 a b g k i j)) wr.heap.size w2 A0 n0 its0 A1 n1 its1 A2 n2 from ⟨by have h := BS.out.1; rw [hsz]; exact h, HX.out⟩)
                have MB := Lib.hid BS.out.2
                have hwb := BB.out.size
                have BW := Lib.hid (HBW.out.trans (BB.out.mono HBW.out.size))
                clear BS hsz HX E1 HG hgne
                cases q
                · have HN := Lib.hid (show ((findJ a b c g k i (la - (j + 1)) (j + 1)).or (findI a b c g k (la - (i + 1)) (i + 1))).or (findK a b c g (g - (k + 1)) (k + 1)) = o by
                    have h := hfj.out
                    rw [show la - j = la - (j + 1) + 1 by omega, findJ_miss HQ.out] at h
                    exact h)
                  have vj : IntKind.i64.wrap ((j : Int) + 1) = (j : Int) + 1 := IntWalk.i64_in _ (by omega)
                  go_wp2_with fail
                  go_roundw
                  case rel => exact ⟨j + 1, by omega, by omega, rfl, by go_num, HN.out, RR.out, BW.out⟩
                  case measure => simp [intOf]; omega
                · have HN := Lib.hid (show some (cand2 a b g k i j) = o by
                    have h := hfj.out
                    rw [show la - j = la - (j + 1) + 1 by omega, findJ_hit HQ.out] at h
                    exact h)
                  have n0' := MB.out.cell 0; have n1' := MB.out.cell 1; have n2' := MB.out.cell 2; have n3' := MB.out.cell 3; have n4' := MB.out.cell 4; have n5' := MB.out.cell 5
                  have r0 := RR.out.cell 0; have r1 := RR.out.cell 1; have r2 := RR.out.cell 2; have r3 := RR.out.cell 3; have r4 := RR.out.cell 4; have r5 := RR.out.cell 5
                  have k0 := RR.out.frozen 0; have k1 := RR.out.frozen 1; have k2 := RR.out.frozen 2; have k3 := RR.out.frozen 3; have k4 := RR.out.frozen 4; have k5 := RR.out.frozen 5
                  simp at n0' n1' n2' n3' n4' n5' r0 r1 r2 r3 r4 r5
                  go_wp2_with fail
                  rw [← HN.out]
                  refine bodyPost_ret (v := .tuple #[.agg #[i64 s, i64 (formF s (cand2 a b g k i j)).2.1, i64 (formF s (cand2 a b g k i j)).2.2.1, .slice A0 n0 c0, .slice A1 n1 c1, .slice A2 n2 c2], .bool true]) (by simp [results, Try.results94, go_sem, r0, r1, r2, r3, r4, r5]) rfl ?_
                  exact FbOut.good2 BB.out FR.out below_size HBW.out HR.out.lt
            · have HN := Lib.hid (show (findI a b c g k (la - (i + 1)) (i + 1)).or (findK a b c g (g - (k + 1)) (k + 1)) = o by rw [← hfj.out, show la - j = 0 by omega]; rfl)
              have vi : IntKind.i64.wrap ((i : Int) + 1) = (i : Int) + 1 := IntWalk.i64_in _ (by omega)
              clear hR hbw hfj
              go_wp2_with fail
              go_roundw
              case rel => exact ⟨i + 1, by omega, rfl, by go_num, HN.out, HR.out, HBW.out⟩
              case measure => simp [intOf]; omega
        · have HN := Lib.hid (show findK a b c g (g - (k + 1)) (k + 1) = o by rw [← hfi.out, show la - i = 0 by omega]; rfl)
          clear hR hbw hfi
          go_wp2_with fail
          go_roundw
          case rel => exact ⟨k + 1, by omega, by omega, rfl, by go_num, HN.out, HR.out, HBW.out⟩
          case measure => simp [intOf]; omega
    · have HN := Lib.hid (show none = o by rw [← hfk.out, show g - k = 0 by omega]; rfl)
      have r0 := hR.cell 0; have r1 := hR.cell 1; have r2 := hR.cell 2; have r3 := hR.cell 3; have r4 := hR.cell 4; have r5 := hR.cell 5
      have f0 := hR.frozen 0; have f1 := hR.frozen 1; have f2 := hR.frozen 2; have f3 := hR.frozen 3; have f4 := hR.frozen 4; have f5 := hR.frozen 5
      simp at r0 r1 r2 r3 r4 r5
      clear hR hbw hfk
      go_wp2_with fail
      refine bodyPost_ret (v := .tuple #[.agg #[i64 0, i64 0, i64 0, .slice none 0 0, .slice none 0 0, .slice none 0 0], .bool false]) (by simp [results, Try.results94, go_sem, r0, r1, r2, r3, r4, r5]) rfl ?_
      rw [← HN.out]
      exact ⟨0, 0, 0, none, 0, 0, [], none, 0, 0, [], none, 0, 0, rfl, (fun F h => by cases h), below_set6 HBW.out (Nat.le_refl _)⟩
section
variable {w wr w2 w3 : World} {u0 u1 u2 u3 u4 u5 : Value} {s : Int} {F : Fd} {A0 : Option Addr} {n0 c0 : Nat} {its0 : List It} {A1 : Option Addr} {n1 c1 : Nat} {its1 : List It} {A2 : Option Addr} {n2 c2 : Nat}
theorem FoOut.good2 (hb2 : Below wr.heap.size wr w2) (hr : FoR (formF s F) wr.heap.size w2 A0 n0 its0 A1 n1 its1 A2 n2) (hb : Below w2.heap.size w2 w3) (hw : Below w.heap.size w wr) (hlt : w.heap.size < wr.heap.size) :
    FoOut (foundF s (some F)) w (.returned (.tuple #[.agg #[i64 s, i64 (formF s F).2.1, i64 (formF s F).2.2.1, .slice A0 n0 c0, .slice A1 n1 c1, .slice A2 n2 c2], i64 0]))
      ((((((w3.setCell ⟨w.heap.size, 0, none⟩ u0).setCell ⟨w.heap.size, 1, none⟩ u1).setCell ⟨w.heap.size, 2, none⟩ u2).setCell ⟨w.heap.size, 3, none⟩ u3).setCell ⟨w.heap.size, 4, none⟩ u4).setCell ⟨w.heap.size, 5, none⟩ u5) := by
  obtain ⟨h1, h2, h3, h4, h5, h6, h7, h8⟩ := hr
  exact ⟨A0, n0, c0, its0, A1, n1, c1, its1, A2, n2, c2, rfl, ⟨(((h1.below hb).set6 hlt).wider (by omega) (by have := hb.size; simpa using this)), h2, h3, h4, h5, h6, h7, h8⟩, below_set6 ((hw.trans (hb2.mono (by omega))).trans (hb.mono (by have := hb2.size; omega))) (Nat.le_refl _)⟩
end
set_option maxHeartbeats 8000000 in
set_option maxRecDepth 100000 in
theorem repeatsIn1_c (s : Int) (A B C : Option Addr) (la ca lb cb lc cc : Nat) (a b c : List Int) (g : Nat) (w : World) (ha : RdI w A la a) (hb : RdI w B lb b) (hc : RdI w C lc c) (hla : 0 < la ∧ la ≤ 40) (hg : 1 ≤ g ∧ g ≤ 8) (hlb : lb = la + g) (hlc : lc = lb + g) (hca : la ≤ ca) (hcb : lb ≤ cb) :
    Calls Try.prog 54 #[.int .i64 s, .slice A la ca, .slice B lb cb, .slice C lc cc] w (FoOut (foundF s (findF a b c g)) w) := by
  have HLA := Lib.hid ha.len
  obtain ⟨ada, rfl, haba, hcsa⟩ := ha.2 (by omega)
  obtain ⟨adb, rfl, habb, hcsb⟩ := hb.2 (by omega)
  have HA := Lib.hid ha; have HB := Lib.hid hb; have HC := Lib.hid hc
  clear ha hb hc hcsa hcsb
  subst hlb
  have hlc2 : (lc : Int) - (la + g : Nat) = (g : Int) := by omega
  have HLC := Lib.hid hlc
  have hlc3 : lc ≤ 1000000 := by omega
  have kc : ((lc : Int) - ((la : Int) + (g : Int)) != (la : Int) + (g : Int) - (la : Int)) = false := by simp; omega
  have kg1 : decide ((la : Int) + (g : Int) - (la : Int) < 1) = false := decide_eq_false (by omega)
  have kg8 : decide (8 < (la : Int) + (g : Int) - (la : Int)) = false := decide_eq_false (by omega)
  have ka : inB (la : Int) 1 40 = true := by simp [inB]; omega
  clear hlc hlc2
  obtain ⟨o, ho⟩ : ∃ o, findF a b c g = o := ⟨_, rfl⟩
  rw [ho]
  have HO := Lib.hid ho
  clear ho
  have r0 := Blk.new w 29 #[i64 0, i64 0, i64 0, .slice none 0 0, .slice none 0 0, .slice none 0 0]
  have R0 := Lib.hid r0
  clear r0
  go_enter Try.func54, Try.ntmps54
  go_wp2_with first
    | (go_at_call 92; refine (sizeI_c _ _ _ _ (by omega)).mono ?_; rintro e w' ⟨rfl, rfl⟩)
    | (go_at_call 51; refine (within_b _ _ _ _ ka _).mono ?_; rintro e w' ⟨rfl, rfl⟩)
  rw [show ((la : Int) + (g : Int) - (la : Int)) = (g : Int) by omega]
  clear kc kg1 kg8
  go_loopw [9, 45] (fun bv jv wr => ∃ j : Nat, j ≤ la ∧ bv = .int .i64 0 ∧ jv = .int .i64 j ∧ Hid ((find1 a b c g (la - j) j).or (findK a b c g (g - 1) 1) = o) ∧ Blk wr w.heap.size 29 #[i64 0, i64 0, i64 0, .slice none 0 0, .slice none 0 0, .slice none 0 0] ∧ Below w.heap.size w wr) (fun _ jv _ => la - (intOf jv).toNat)
  case atStart => exact ⟨0, by omega, rfl, rfl, by unfold Hid; rw [← HO.out, findF, HLA.out]; rfl, R0.out, below_size.alloc (Nat.le_refl _) _⟩
  case round =>
    clear R0
    obtain ⟨j, hj, rfl, rfl, hof, hR, hbw⟩ := hrel
    have HR := Lib.hid hR; have HBW := Lib.hid hbw
    by_cases hltj : j < la
    · obtain ⟨q, hq⟩ : ∃ q, fitF b c (cand1 a b g j) = q := ⟨_, rfl⟩
      have HQ := Lib.hid hq
      have vjg : IntKind.i64.wrap ((j : Int) + (g : Int)) = ((j + g : Nat) : Int) := (IntWalk.i64_in _ (by omega)).trans (by omega)
      clear hR hbw hq
      go_wp2_with fail
      have EW : ∀ w1, Below wr.drew.heap.size wr.drew w1 → Below w.heap.size w w1 := fun w1 hb => below_chain HBW.out HBW.out.size (below_of_drew hb)
      refine MixA.wp_facts3 19 21 [49, 50, 51, 52, 53, 54, 55, 56, 57, 58, 59, 60, 61, 62, 63, 64, 65, 48, 66, 67, 12] [[], [], [], [], [], [3, 4], [], [], [], [], [8, 9], [6, 7, 10], [], [], [12, 13], [5, 11, 14], [0, 1, 2, 15], [16], [17, 16], [17, 16], []]
        [MixA.fP (.int .i64 s),
         MixA.fP (.slice (some adb) (la + g) cb),
         MixA.fP (.slice C lc cc),
         MixA.fP (.slice (some ada) la ca),
         MixA.fP (.int .i64 j),
         MixA.fP (.slice (some ada) j ca),
         MixA.fP (.slice (some adb) (la + g) cb),
         MixA.fP (.int .i64 j),
         MixA.fP (.int .i64 j),
         MixA.fP (.int .i64 g),
         MixA.fP (.int .i64 ((j : Int) + (g : Int))),
         MixA.fP (.slice (some (adb.add j)) g (cb - j)),
         MixA.fP (.slice (some ada) la ca),
         MixA.fP (.int .i64 j),
         MixA.fP (.slice (some (ada.add j)) (la - j) (ca - j)),
         MixA.fC 25 3 #[.slice (some ada) j ca, .slice (some (adb.add j)) g (cb - j), .slice (some (ada.add j)) (la - j) (ca - j)],
         fF s (cand1 a b g j) q,
         MixA.fM,
         MixA.fX 0,
         MixA.fX 1,
         MixA.fB 29 #[i64 0, i64 0, i64 0, .slice none 0 0, .slice none 0 0, .slice none 0 0]]
        (by kernel_rfl) (by kernel_rfl) (fun t ht => Nat.lt_of_lt_of_eq (show t < 82 by revert t; decide) rfl) ?_ ?_ ?_
      · intro f hf
        simp only [List.mem_cons, List.not_mem_nil, or_false] at hf
        rcases hf with rfl | rfl | rfl | rfl | rfl | rfl | rfl | rfl | rfl | rfl | rfl | rfl | rfl | rfl | rfl | rfl | rfl | rfl | rfl | rfl | rfl
        · exact MixA.fP_st _
        · exact MixA.fP_st _
        · exact MixA.fP_st _
        · exact MixA.fP_st _
        · exact MixA.fP_st _
        · exact MixA.fP_st _
        · exact MixA.fP_st _
        · exact MixA.fP_st _
        · exact MixA.fP_st _
        · exact MixA.fP_st _
        · exact MixA.fP_st _
        · exact MixA.fP_st _
        · exact MixA.fP_st _
        · exact MixA.fP_st _
        · exact MixA.fP_st _
        · exact MixA.fC_st _ _ _
        · exact fF_st _ _ _
        · exact MixA.fM_st
        · exact MixA.fX_st _
        · exact MixA.fX_st _
        · exact MixA.fB_st _ _
      · intro oe hoe a1 w1 hf
        obtain rfl := Option.some.inj hoe
        obtain ⟨R, hR, _⟩ := hf.facts
        have e38 : MixA.val a1 48 = MixA.val a1 65 := (hR 17 (by decide)).1
        obtain ⟨A0, n0, c0, its0, A1, n1, c1, its1, A2, n2, c2, hv65, _⟩ : fF s (cand1 a b g j) q [] (MixA.val a1 65) (R 16).1 (R 16).2 w1 := (hR 16 (by decide)).1
        have hv48 := e38.trans hv65
        refine ⟨.bool q, fun w' => ?_, ⟨_, hv48, rfl⟩⟩
        have hev : a1.eval (.tmp 48) = _ := hv48
        simp only [execOp, hev]
        simp [go_sem]
      simp only [MixA.EachG]
      refine ⟨?_, ?_, ?_, ?_, ?_, ?_, ?_, ?_, ?_, ?_, ?_, ?_, ?_, ?_, ?_, ?_, ?_, ?_, ?_, ?_, ?_, ?_⟩
      · intro a1 w1 hf
        refine MixA.hop ⟨#[(.int .i64 s), undef, undef, undef, undef, undef, undef, undef, undef, undef, undef, undef, undef, undef, undef, undef, undef, undef, undef, undef, undef, undef, undef, undef, undef, undef, undef, undef, undef, undef, undef, undef, undef, undef, undef, undef, undef, undef, undef, undef, undef, undef, undef, undef, undef, undef, undef, undef, undef, undef], []⟩ (by intro cs b e; cases e) rfl (show 49 < 50 by decide) ?_ ?_
        · intro x hx
          simp [Op.operands] at hx
          rcases hx with rfl
          · exact (hf.was (t := 0) (by decide) rfl).trans rfl
        go_wp2_with fail
        first | exact ⟨below_size, rfl⟩ | exact ⟨_, rfl, below_size, rfl⟩
      · intro a1 w1 hf
        refine MixA.hop ⟨#[undef, undef, (.slice (some adb) (la + g) cb), undef, undef, undef, undef, undef, undef, undef, undef, undef, undef, undef, undef, undef, undef, undef, undef, undef, undef, undef, undef, undef, undef, undef, undef, undef, undef, undef, undef, undef, undef, undef, undef, undef, undef, undef, undef, undef, undef, undef, undef, undef, undef, undef, undef, undef, undef, undef, undef], []⟩ (by intro cs b e; cases e) rfl (show 50 < 51 by decide) ?_ ?_
        · intro x hx
          simp [Op.operands] at hx
          rcases hx with rfl
          · exact (hf.was (t := 2) (by decide) rfl).trans rfl
        go_wp2_with fail
        first | exact ⟨below_size, rfl⟩ | exact ⟨_, rfl, below_size, rfl⟩
      · intro a1 w1 hf
        refine MixA.hop ⟨#[undef, undef, undef, (.slice C lc cc), undef, undef, undef, undef, undef, undef, undef, undef, undef, undef, undef, undef, undef, undef, undef, undef, undef, undef, undef, undef, undef, undef, undef, undef, undef, undef, undef, undef, undef, undef, undef, undef, undef, undef, undef, undef, undef, undef, undef, undef, undef, undef, undef, undef, undef, undef, undef, undef], []⟩ (by intro cs b e; cases e) rfl (show 51 < 52 by decide) ?_ ?_
        · intro x hx
          simp [Op.operands] at hx
          rcases hx with rfl
          · exact (hf.was (t := 3) (by decide) rfl).trans rfl
        go_wp2_with fail
        first | exact ⟨below_size, rfl⟩ | exact ⟨_, rfl, below_size, rfl⟩
      · intro a1 w1 hf
        refine MixA.hop ⟨#[undef, (.slice (some ada) la ca), undef, undef, undef, undef, undef, undef, undef, undef, undef, undef, undef, undef, undef, undef, undef, undef, undef, undef, undef, undef, undef, undef, undef, undef, undef, undef, undef, undef, undef, undef, undef, undef, undef, undef, undef, undef, undef, undef, undef, undef, undef, undef, undef, undef, undef, undef, undef, undef, undef, undef, undef], []⟩ (by intro cs b e; cases e) rfl (show 52 < 53 by decide) ?_ ?_
        · intro x hx
          simp [Op.operands] at hx
          rcases hx with rfl
          · exact (hf.was (t := 1) (by decide) rfl).trans rfl
        go_wp2_with fail
        first | exact ⟨below_size, rfl⟩ | exact ⟨_, rfl, below_size, rfl⟩
      · intro a1 w1 hf
        refine MixA.hop ⟨#[undef, undef, undef, undef, undef, undef, undef, undef, undef, undef, undef, (.int .i64 j), undef, undef, undef, undef, undef, undef, undef, undef, undef, undef, undef, undef, undef, undef, undef, undef, undef, undef, undef, undef, undef, undef, undef, undef, undef, undef, undef, undef, undef, undef, undef, undef, undef, undef, undef, undef, undef, undef, undef, undef, undef, undef], []⟩ (by intro cs b e; cases e) rfl (show 53 < 54 by decide) ?_ ?_
        · intro x hx
          simp [Op.operands] at hx
          rcases hx with rfl
          · exact (hf.was (t := 11) (by decide) rfl).trans rfl
        go_wp2_with fail
        first | exact ⟨below_size, rfl⟩ | exact ⟨_, rfl, below_size, rfl⟩
      · intro a1 w1 hf
        refine MixA.hop ⟨#[undef, undef, undef, undef, undef, undef, undef, undef, undef, undef, undef, undef, undef, undef, undef, undef, undef, undef, undef, undef, undef, undef, undef, undef, undef, undef, undef, undef, undef, undef, undef, undef, undef, undef, undef, undef, undef, undef, undef, undef, undef, undef, undef, undef, undef, undef, undef, undef, undef, undef, undef, undef, (.slice (some ada) la ca), (.int .i64 j), undef], []⟩ (by intro cs b e; cases e) rfl (show 54 < 55 by decide) ?_ ?_
        · intro x hx
          simp [Op.operands] at hx
          rcases hx with rfl | rfl
          · exact (hf.pure (j := 3) (by decide) rfl).trans rfl
          · exact (hf.pure (j := 4) (by decide) rfl).trans rfl
        go_wp2_with fail
        first | exact ⟨below_size, rfl⟩ | exact ⟨_, rfl, below_size, rfl⟩
      · intro a1 w1 hf
        refine MixA.hop ⟨#[undef, undef, (.slice (some adb) (la + g) cb), undef, undef, undef, undef, undef, undef, undef, undef, undef, undef, undef, undef, undef, undef, undef, undef, undef, undef, undef, undef, undef, undef, undef, undef, undef, undef, undef, undef, undef, undef, undef, undef, undef, undef, undef, undef, undef, undef, undef, undef, undef, undef, undef, undef, undef, undef, undef, undef, undef, undef, undef, undef, undef], []⟩ (by intro cs b e; cases e) rfl (show 55 < 56 by decide) ?_ ?_
        · intro x hx
          simp [Op.operands] at hx
          rcases hx with rfl
          · exact (hf.was (t := 2) (by decide) rfl).trans rfl
        go_wp2_with fail
        first | exact ⟨below_size, rfl⟩ | exact ⟨_, rfl, below_size, rfl⟩
      · intro a1 w1 hf
        refine MixA.hop ⟨#[undef, undef, undef, undef, undef, undef, undef, undef, undef, undef, undef, (.int .i64 j), undef, undef, undef, undef, undef, undef, undef, undef, undef, undef, undef, undef, undef, undef, undef, undef, undef, undef, undef, undef, undef, undef, undef, undef, undef, undef, undef, undef, undef, undef, undef, undef, undef, undef, undef, undef, undef, undef, undef, undef, undef, undef, undef, undef, undef], []⟩ (by intro cs b e; cases e) rfl (show 56 < 57 by decide) ?_ ?_
        · intro x hx
          simp [Op.operands] at hx
          rcases hx with rfl
          · exact (hf.was (t := 11) (by decide) rfl).trans rfl
        go_wp2_with fail
        first | exact ⟨below_size, rfl⟩ | exact ⟨_, rfl, below_size, rfl⟩
      · intro a1 w1 hf
        refine MixA.hop ⟨#[undef, undef, undef, undef, undef, undef, undef, undef, undef, undef, undef, (.int .i64 j), undef, undef, undef, undef, undef, undef, undef, undef, undef, undef, undef, undef, undef, undef, undef, undef, undef, undef, undef, undef, undef, undef, undef, undef, undef, undef, undef, undef, undef, undef, undef, undef, undef, undef, undef, undef, undef, undef, undef, undef, undef, undef, undef, undef, undef, undef], []⟩ (by intro cs b e; cases e) rfl (show 57 < 58 by decide) ?_ ?_
        · intro x hx
          simp [Op.operands] at hx
          rcases hx with rfl
          · exact (hf.was (t := 11) (by decide) rfl).trans rfl
        go_wp2_with fail
        first | exact ⟨below_size, rfl⟩ | exact ⟨_, rfl, below_size, rfl⟩
      · intro a1 w1 hf
        refine MixA.hop ⟨#[undef, undef, undef, undef, undef, undef, undef, undef, undef, undef, (.int .i64 g), undef, undef, undef, undef, undef, undef, undef, undef, undef, undef, undef, undef, undef, undef, undef, undef, undef, undef, undef, undef, undef, undef, undef, undef, undef, undef, undef, undef, undef, undef, undef, undef, undef, undef, undef, undef, undef, undef, undef, undef, undef, undef, undef, undef, undef, undef, undef, undef], []⟩ (by intro cs b e; cases e) rfl (show 58 < 59 by decide) ?_ ?_
        · intro x hx
          simp [Op.operands] at hx
          rcases hx with rfl
          · exact (hf.was (t := 10) (by decide) rfl).trans rfl
        go_wp2_with fail
        first | exact ⟨below_size, rfl⟩ | exact ⟨_, rfl, below_size, rfl⟩
      · intro a1 w1 hf
        refine MixA.hop ⟨#[undef, undef, undef, undef, undef, undef, undef, undef, undef, undef, undef, undef, undef, undef, undef, undef, undef, undef, undef, undef, undef, undef, undef, undef, undef, undef, undef, undef, undef, undef, undef, undef, undef, undef, undef, undef, undef, undef, undef, undef, undef, undef, undef, undef, undef, undef, undef, undef, undef, undef, undef, undef, undef, undef, undef, undef, undef, (.int .i64 j), (.int .i64 g), undef], []⟩ (by intro cs b e; cases e) rfl (show 59 < 60 by decide) ?_ ?_
        · intro x hx
          simp [Op.operands] at hx
          rcases hx with rfl | rfl
          · exact (hf.pure (j := 8) (by decide) rfl).trans rfl
          · exact (hf.pure (j := 9) (by decide) rfl).trans rfl
        go_wp2_with fail
        first | exact ⟨below_size, rfl⟩ | exact ⟨_, rfl, below_size, rfl⟩
      · intro a1 w1 hf
        refine MixA.hop ⟨#[undef, undef, undef, undef, undef, undef, undef, undef, undef, undef, undef, undef, undef, undef, undef, undef, undef, undef, undef, undef, undef, undef, undef, undef, undef, undef, undef, undef, undef, undef, undef, undef, undef, undef, undef, undef, undef, undef, undef, undef, undef, undef, undef, undef, undef, undef, undef, undef, undef, undef, undef, undef, undef, undef, undef, (.slice (some adb) (la + g) cb), (.int .i64 j), undef, undef, (.int .i64 ((j : Int) + (g : Int))), undef], []⟩ (by intro cs b e; cases e) rfl (show 60 < 61 by decide) ?_ ?_
        · intro x hx
          simp [Op.operands] at hx
          rcases hx with rfl | rfl | rfl
          · exact (hf.pure (j := 6) (by decide) rfl).trans rfl
          · exact (hf.pure (j := 7) (by decide) rfl).trans rfl
          · exact (hf.pure (j := 10) (by decide) rfl).trans rfl
        go_wp2_with fail
        first | exact ⟨below_size, rfl⟩ | exact ⟨_, rfl, below_size, rfl⟩
      · intro a1 w1 hf
        refine MixA.hop ⟨#[undef, (.slice (some ada) la ca), undef, undef, undef, undef, undef, undef, undef, undef, undef, undef, undef, undef, undef, undef, undef, undef, undef, undef, undef, undef, undef, undef, undef, undef, undef, undef, undef, undef, undef, undef, undef, undef, undef, undef, undef, undef, undef, undef, undef, undef, undef, undef, undef, undef, undef, undef, undef, undef, undef, undef, undef, undef, undef, undef, undef, undef, undef, undef, undef, undef], []⟩ (by intro cs b e; cases e) rfl (show 61 < 62 by decide) ?_ ?_
        · intro x hx
          simp [Op.operands] at hx
          rcases hx with rfl
          · exact (hf.was (t := 1) (by decide) rfl).trans rfl
        go_wp2_with fail
        first | exact ⟨below_size, rfl⟩ | exact ⟨_, rfl, below_size, rfl⟩
      · intro a1 w1 hf
        refine MixA.hop ⟨#[undef, undef, undef, undef, undef, undef, undef, undef, undef, undef, undef, (.int .i64 j), undef, undef, undef, undef, undef, undef, undef, undef, undef, undef, undef, undef, undef, undef, undef, undef, undef, undef, undef, undef, undef, undef, undef, undef, undef, undef, undef, undef, undef, undef, undef, undef, undef, undef, undef, undef, undef, undef, undef, undef, undef, undef, undef, undef, undef, undef, undef, undef, undef, undef, undef], []⟩ (by intro cs b e; cases e) rfl (show 62 < 63 by decide) ?_ ?_
        · intro x hx
          simp [Op.operands] at hx
          rcases hx with rfl
          · exact (hf.was (t := 11) (by decide) rfl).trans rfl
        go_wp2_with fail
        first | exact ⟨below_size, rfl⟩ | exact ⟨_, rfl, below_size, rfl⟩
      · intro a1 w1 hf
        refine MixA.hop ⟨#[undef, undef, undef, undef, undef, undef, undef, undef, undef, undef, undef, undef, undef, undef, undef, undef, undef, undef, undef, undef, undef, undef, undef, undef, undef, undef, undef, undef, undef, undef, undef, undef, undef, undef, undef, undef, undef, undef, undef, undef, undef, undef, undef, undef, undef, undef, undef, undef, undef, undef, undef, undef, undef, undef, undef, undef, undef, undef, undef, undef, undef, (.slice (some ada) la ca), (.int .i64 j), undef], []⟩ (by intro cs b e; cases e) rfl (show 63 < 64 by decide) ?_ ?_
        · intro x hx
          simp [Op.operands] at hx
          rcases hx with rfl | rfl
          · exact (hf.pure (j := 12) (by decide) rfl).trans rfl
          · exact (hf.pure (j := 13) (by decide) rfl).trans rfl
        go_wp2_with fail
        first | exact ⟨below_size, rfl⟩ | exact ⟨_, rfl, below_size, rfl⟩
      · intro a1 w1 hf
        refine MixA.hop ⟨#[undef, undef, undef, undef, undef, undef, undef, undef, undef, undef, undef, undef, undef, undef, undef, undef, undef, undef, undef, undef, undef, undef, undef, undef, undef, undef, undef, undef, undef, undef, undef, undef, undef, undef, undef, undef, undef, undef, undef, undef, undef, undef, undef, undef, undef, undef, undef, undef, undef, undef, undef, undef, undef, undef, (.slice (some ada) j ca), undef, undef, undef, undef, undef, (.slice (some (adb.add j)) g (cb - j)), undef, undef, (.slice (some (ada.add j)) (la - j) (ca - j)), undef], []⟩ (by intro cs b e; cases e) rfl (show 64 < 65 by decide) ?_ ?_
        · intro x hx
          simp [Op.operands] at hx
          rcases hx with rfl | rfl | rfl
          · exact (hf.pure (j := 5) (by decide) rfl).trans rfl
          · exact (hf.pure (j := 11) (by decide) rfl).trans rfl
          · exact (hf.pure (j := 14) (by decide) rfl).trans rfl
        go_wp2_with fail
        first | exact ⟨below_size.alloc (Nat.le_refl _) _, w1.heap.size, rfl, Nat.le_refl _, by simp, Blk.new w1 _ _⟩ | exact ⟨_, rfl, below_size.alloc (Nat.le_refl _) _, w1.heap.size, rfl, Nat.le_refl _, by simp, Blk.new w1 _ _⟩
      · intro a1 w1 hf
        obtain ⟨R, hR, _⟩ := hf.facts
        obtain ⟨g66, hv64, _, _, h66⟩ : ∃ g', MixA.val a1 64 = .slice (some ⟨g', 0, none⟩) 3 3 ∧ (R 15).1 ≤ g' ∧ g' < (R 15).2 ∧ Blk w1 g' 25 #[.slice (some ada) j ca, .slice (some (adb.add j)) g (cb - j), .slice (some (ada.add j)) (la - j) (ca - j)] := (hR 15 (by decide)).1
        have E1 := EW w1 hf.below
        have HP := Lib.hid (rdII3 (a := ⟨some ada, j, ca, a.take j⟩) (b := ⟨some (adb.add j), g, cb - j, (b.drop j).take g⟩) (c := ⟨some (ada.add j), la - j, ca - j, a.drop j⟩) h66
          ((RdI.below HA.out E1).take (by omega)) (show RdI w1 (some (adb.add j)) g ((b.drop j).take g) from (RdI.below HB.out E1).mid (by omega)) ((RdI.below HA.out E1).drop (by omega)))
        have HE1 := Lib.hid E1
        clear hR h66 E1
        refine MixA.hop ⟨#[undef, undef, undef, undef, undef, undef, undef, undef, undef, undef, undef, undef, undef, undef, undef, undef, undef, undef, undef, undef, undef, undef, undef, undef, undef, undef, undef, undef, undef, undef, undef, undef, undef, undef, undef, undef, undef, undef, undef, undef, undef, undef, undef, undef, undef, undef, undef, undef, undef, (.int .i64 s), (.slice (some adb) (la + g) cb), (.slice C lc cc), undef, undef, undef, undef, undef, undef, undef, undef, undef, undef, undef, undef, (.slice (some ⟨g66, 0, none⟩) 3 3), undef], []⟩ (by intro cs b e; cases e) rfl (show 65 < 66 by decide) ?_ ?_
        · intro x hx
          simp [Op.operands, Call.operands] at hx
          rcases hx with rfl | rfl | rfl | rfl | rfl
          · rfl
          · exact (hf.pure (j := 0) (by decide) rfl).trans rfl
          · exact (hf.pure (j := 1) (by decide) rfl).trans rfl
          · exact (hf.pure (j := 2) (by decide) rfl).trans rfl
          · exact hv64.trans rfl
        go_wp2_with fail
        refine (bounced_c s (some adb) C (some ⟨g66, 0, none⟩) (la + g) cb lc cc 3 3 b c _ _ (by exact RdI.below HB.out HE1.out) (by exact RdI.below HC.out HE1.out) HP.out (by omega) (by intro t ht; simp at ht; rcases ht with rfl | rfl | rfl <;> (simp; omega)) (by omega) (by omega) rfl).mono ?_
        rintro e w2 ⟨A0, n0, c0, its0, A1, n1, c1, its1, A2, n2, c2, rfl, ⟨hS, h1, h2, h3, h4, h5, h6, h7⟩, hb2⟩
        have hq2 : (decide (oneP [a.take j, (b.drop j).take g, a.drop j] = b) && decide (dblP true [a.take j, (b.drop j).take g, a.drop j] = c)) = q := (fit3 _ _ _ _ _).trans HQ.out
        have S2 := Lib.hid hS; have B2 := Lib.hid hb2; have X2 := Lib.hid (And.intro h1 (And.intro h2 (And.intro h3 (And.intro h4 (And.intro h5 (And.intro h6 h7))))))
        simp only [List.map_cons, List.map_nil, hq2]
        clear hS hb2 h1 h2 h3 h4 h5 h6 h7 hq2
        go_wp2_with fail
        exact ⟨B2.out, A0, n0, c0, its0, A1, n1, c1, its1, A2, n2, c2, rfl, S2.out, X2.out⟩
      · intro a1 w1 hf
        obtain ⟨v67, hv65⟩ : ∃ v, MixA.val a1 65 = v := ⟨_, rfl⟩
        refine MixA.hop ⟨#[undef, undef, undef, undef, undef, undef, undef, undef, undef, undef, undef, undef, undef, undef, undef, undef, undef, undef, undef, undef, undef, undef, undef, undef, undef, undef, undef, undef, undef, undef, undef, undef, undef, undef, undef, undef, undef, undef, undef, undef, undef, undef, undef, undef, undef, undef, undef, undef, undef, undef, undef, undef, undef, undef, undef, undef, undef, undef, undef, undef, undef, undef, undef, undef, undef, v67], []⟩ (by intro cs b e; cases e) rfl (show 48 < 66 by decide) ?_ ?_
        · intro x hx
          simp [Op.operands] at hx
          rcases hx with rfl
          · exact hv65.trans rfl
        go_wp2_with fail
        exact ⟨below_size, rfl⟩
      · intro a1 w1 hf
        obtain ⟨R, hR, _⟩ := hf.facts
        have e38 : MixA.val a1 48 = MixA.val a1 65 := (hR 17 (by decide)).1
        obtain ⟨A0, n0, c0, its0, A1, n1, c1, its1, A2, n2, c2, hv65, _⟩ : fF s (cand1 a b g j) q [] (MixA.val a1 65) (R 16).1 (R 16).2 w1 := (hR 16 (by decide)).1
        have hv48 := e38.trans hv65
        clear hR e38 hv65
        refine MixA.hop ⟨#[undef, undef, undef, undef, undef, undef, undef, undef, undef, undef, undef, undef, undef, undef, undef, undef, undef, undef, undef, undef, undef, undef, undef, undef, undef, undef, undef, undef, undef, undef, undef, undef, undef, undef, undef, undef, undef, undef, undef, undef, undef, undef, undef, undef, undef, undef, undef, undef, (.tuple #[.agg #[i64 s, i64 (formF s (cand1 a b g j)).2.1, i64 (formF s (cand1 a b g j)).2.2.1, .slice A0 n0 c0, .slice A1 n1 c1, .slice A2 n2 c2], .bool q]), undef, undef, undef, undef, undef, undef, undef, undef, undef, undef, undef, undef, undef, undef, undef, undef, undef, undef], []⟩ (by intro cs b e; cases e) rfl (show 66 < 67 by decide) ?_ ?_
        · intro x hx
          simp [Op.operands] at hx
          rcases hx with rfl
          · exact hv48.trans rfl
        go_wp2_with fail
        exact ⟨below_size, _, rfl, rfl⟩
      · intro a1 w1 hf
        obtain ⟨R, hR, _⟩ := hf.facts
        have e38 : MixA.val a1 48 = MixA.val a1 65 := (hR 17 (by decide)).1
        obtain ⟨A0, n0, c0, its0, A1, n1, c1, its1, A2, n2, c2, hv65, _⟩ : fF s (cand1 a b g j) q [] (MixA.val a1 65) (R 16).1 (R 16).2 w1 := (hR 16 (by decide)).1
        have hv48 := e38.trans hv65
        clear hR e38 hv65
        refine MixA.hop ⟨#[undef, undef, undef, undef, undef, undef, undef, undef, undef, undef, undef, undef, undef, undef, undef, undef, undef, undef, undef, undef, undef, undef, undef, undef, undef, undef, undef, undef, undef, undef, undef, undef, undef, undef, undef, undef, undef, undef, undef, undef, undef, undef, undef, undef, undef, undef, undef, undef, (.tuple #[.agg #[i64 s, i64 (formF s (cand1 a b g j)).2.1, i64 (formF s (cand1 a b g j)).2.2.1, .slice A0 n0 c0, .slice A1 n1 c1, .slice A2 n2 c2], .bool q]), undef, undef, undef, undef, undef, undef, undef, undef, undef, undef, undef, undef, undef, undef, undef, undef, undef, undef, undef], []⟩ (by intro cs b e; cases e) rfl (show 67 < 68 by decide) ?_ ?_
        · intro x hx
          simp [Op.operands] at hx
          rcases hx with rfl
          · exact hv48.trans rfl
        go_wp2_with fail
        exact ⟨below_size, _, rfl, rfl⟩
      · intro a1 w1 hf
        refine MixA.hop ⟨#[undef, undef, undef, undef, undef, undef, undef, undef, undef, undef, undef, undef, undef], []⟩ (by intro cs b e; cases e) rfl (show 12 < 13 by decide) ?_ ?_
        · intro x hx
          simp [Op.operands] at hx
        go_wp2_with fail
        first | exact ⟨below_size.alloc (Nat.le_refl _) _, w1.heap.size, rfl, Nat.le_refl _, by simp, Blk.new w1 _ _⟩ | exact ⟨_, rfl, below_size.alloc (Nat.le_refl _) _, w1.heap.size, rfl, Nat.le_refl _, by simp, Blk.new w1 _ _⟩
      · intro a1 w1 hf
        obtain ⟨R, hR, hd⟩ := hf.facts
        have e38 : MixA.val a1 48 = MixA.val a1 65 := (hR 17 (by decide)).1
        obtain ⟨A0, n0, c0, its0, A1, n1, c1, its1, A2, n2, c2, hv65, hS, hx⟩ : fF s (cand1 a b g j) q [] (MixA.val a1 65) (R 16).1 (R 16).2 w1 := (hR 16 (by decide)).1
        have hv48 := e38.trans hv65
        obtain ⟨_, e1, hv66⟩ : ∃ xs, MixA.val a1 48 = .tuple xs ∧ xs[0]? = some (MixA.val a1 66) := (hR 18 (by decide)).1
        rw [hv48] at e1; injection e1 with e1; subst e1
        obtain ⟨_, e1, hv67⟩ : ∃ xs, MixA.val a1 48 = .tuple xs ∧ xs[1]? = some (MixA.val a1 67) := (hR 19 (by decide)).1
        rw [hv48] at e1; injection e1 with e1; subst e1
        replace hv66 := (Option.some.inj hv66).symm
        replace hv67 := (Option.some.inj hv67).symm
        obtain ⟨g14, hv12, l14, r14, h14⟩ : ∃ g', MixA.val a1 12 = .pointer (some ⟨g', 0, none⟩) ∧ (R 20).1 ≤ g' ∧ g' < (R 20).2 ∧ Blk w1 g' 29 #[i64 0, i64 0, i64 0, .slice none 0 0, .slice none 0 0, .slice none 0 0] := (hR 20 (by decide)).1
        have b67 := (hR 16 (by decide)).2; have b14 := (hR 20 (by decide)).2
        have w14 : Wr w1 (R 20).1 (R 20).2 (some ⟨g14, 0, none⟩) 6 [i64 0, i64 0, i64 0, .slice none 0 0, .slice none 0 0, .slice none 0 0] := h14.wr l14 r14 rfl (by simp)
        have BX := (WrS.one w14).two (lo := wr.heap.size) (hi := w1.heap.size) hS (hd 20 16 (by decide) (by decide) (by decide)) ⟨b14.1, b14.2.1, b14.2.2⟩ ⟨b67.1, b67.2.1, b67.2.2⟩
        have BS := Lib.hid (box_store (u0 := i64 s) (u1 := i64 (formF s (cand1 a b g j)).2.1) (u2 := i64 (formF s (cand1 a b g j)).2.2.1) (u3 := .slice A0 n0 c0) (u4 := .slice A1 n1 c1) (u5 := .slice A2 n2 c2) BX h14)
        have HG := Lib.hid (show wr.heap.size ≤ g14 from Nat.le_trans b14.1 l14)
        have HX := Lib.hid hx
        have E1 := Lib.hid (below_of_drew hf.below)
        have m0 := h14.cell 0; have m1 := h14.cell 1; have m2 := h14.cell 2; have m3 := h14.cell 3; have m4 := h14.cell 4; have m5 := h14.cell 5
        have f0 := h14.frozen 0; have f1 := h14.frozen 1; have f2 := h14.frozen 2; have f3 := h14.frozen 3; have f4 := h14.frozen 4; have f5 := h14.frozen 5
        simp at m0 m1 m2 m3 m4 m5
        rw [hf.act]
        clear hR hd hS hx w14 h14 l14 r14 b67 b14 BX EW e38
        simp only [List.foldl_cons, List.foldl_nil, hv65, hv48, hv66, hv67, hv12]
        clear hv65 hv48 hv66 hv67 hv12 hf
        simp only [Act.put, List.setIfInBounds_toArray, List.set_cons_succ, List.set_cons_zero]
        have hgne : w.heap.size ≠ g14 := by have h1 := HG.out; have h2 := HR.out.lt; omega
        have RR := Lib.hid ((((((((HR.out.keep E1.out).far (p := ⟨g14, 0, none⟩) hgne (i64 s)).far (p := ⟨g14, 1, none⟩) hgne (i64 (formF s (cand1 a b g j)).2.1)).far (p := ⟨g14, 2, none⟩) hgne (i64 (formF s (cand1 a b g j)).2.2.1)).far (p := ⟨g14, 3, none⟩) hgne (.slice A0 n0 c0)).far (p := ⟨g14, 4, none⟩) hgne (.slice A1 n1 c1)).far (p := ⟨g14, 5, none⟩) hgne (.slice A2 n2 c2)))
        have BB := Lib.hid (below_set6 (u0 := i64 s) (u1 := i64 (formF s (cand1 a b g j)).2.1) (u2 := i64 (formF s (cand1 a b g j)).2.2.1) (u3 := .slice A0 n0 c0) (u4 := .slice A1 n1 c1) (u5 := .slice A2 n2 c2) E1.out HG.out)
        have hsz : ((((((w1.setCell ⟨g14, 0, none⟩ (i64 s)).setCell ⟨g14, 1, none⟩ (i64 (formF s (cand1 a b g j)).2.1)).setCell ⟨g14, 2, none⟩ (i64 (formF s (cand1 a b g j)).2.2.1)).setCell ⟨g14, 3, none⟩ (.slice A0 n0 c0)).setCell ⟨g14, 4, none⟩ (.slice A1 n1 c1)).setCell ⟨g14, 5, none⟩ (.slice A2 n2 c2)).heap.size = w1.heap.size := by simp
        obtain ⟨w2, hw2⟩ : ∃ w2, (((((w1.setCell ⟨g14, 0, none⟩ (i64 s)).setCell ⟨g14, 1, none⟩ (i64 (formF s (cand1 a b g j)).2.1)).setCell ⟨g14, 2, none⟩ (i64 (formF s (cand1 a b g j)).2.2.1)).setCell ⟨g14, 3, none⟩ (.slice A0 n0 c0)).setCell ⟨g14, 4, none⟩ (.slice A1 n1 c1)).setCell ⟨g14, 5, none⟩ (.slice A2 n2 c2) = w2 := ⟨_, rfl⟩
        rw [hw2] at BS RR BB hsz
        have FR := Lib.hid (show FoR (formF s (cand1 a b g j)) wr.heap.size w2 A0 n0 its0 A1 n1 its1 A2 n2 from ⟨by have h := BS.out.1; rw [hsz]; exact h, HX.out⟩)
        have MB := Lib.hid BS.out.2
        have hwb := BB.out.size
        have BW := Lib.hid (HBW.out.trans (BB.out.mono HBW.out.size))
        clear BS hsz HX E1 HG hgne
        cases q
        · have HN := Lib.hid (show (find1 a b c g (la - (j + 1)) (j + 1)).or (findK a b c g (g - 1) 1) = o by
            rw [← hof.out, show la - j = la - (j + 1) + 1 by omega, find1, find1, seek_miss (p := fun j => okF b c (cand1 a b g j)) (okF_f HQ.out)])
          have vj : IntKind.i64.wrap ((j : Int) + 1) = (j : Int) + 1 := IntWalk.i64_in _ (by omega)
          go_wp2_with fail
          go_roundw
          case rel => exact ⟨j + 1, by omega, rfl, by go_num, HN.out, RR.out, BW.out⟩
          case measure => simp [intOf]; omega
        · have HN := Lib.hid (show some (cand1 a b g j) = o by
            rw [← hof.out, show la - j = la - (j + 1) + 1 by omega, find1, seek_hit (p := fun j => okF b c (cand1 a b g j)) (okF_t HQ.out)]; rfl)
          have n0' := MB.out.cell 0; have n1' := MB.out.cell 1; have n2' := MB.out.cell 2; have n3' := MB.out.cell 3; have n4' := MB.out.cell 4; have n5' := MB.out.cell 5
          have r0 := RR.out.cell 0; have r1 := RR.out.cell 1; have r2 := RR.out.cell 2; have r3 := RR.out.cell 3; have r4 := RR.out.cell 4; have r5 := RR.out.cell 5
          have k0 := RR.out.frozen 0; have k1 := RR.out.frozen 1; have k2 := RR.out.frozen 2; have k3 := RR.out.frozen 3; have k4 := RR.out.frozen 4; have k5 := RR.out.frozen 5
          simp at n0' n1' n2' n3' n4' n5' r0 r1 r2 r3 r4 r5
          go_wp2_with fail
          rw [← HN.out]
          refine bodyPost_ret (v := .tuple #[.agg #[i64 s, i64 (formF s (cand1 a b g j)).2.1, i64 (formF s (cand1 a b g j)).2.2.1, .slice A0 n0 c0, .slice A1 n1 c1, .slice A2 n2 c2], i64 0]) (by simp [results, Try.results54, go_sem, r0, r1, r2, r3, r4, r5]) rfl ?_
          exact FoOut.good2 BB.out FR.out below_size HBW.out HR.out.lt
    · have HN := Lib.hid (show findK a b c g (g - 1) 1 = o by rw [← hof.out, show la - j = 0 by omega]; rfl)
      clear hR hbw hof
      go_wp2_with fail
      refine (twoRepeats_c s (some ada) (some adb) C la ca (la + g) cb lc cc a b c g _ (by exact RdI.below HA.out HBW.out) (by exact RdI.below HB.out HBW.out) (by exact RdI.below HC.out HBW.out) hla hg rfl hlc3 hca hcb).mono ?_
      rw [HN.out]
      rintro e w2 ⟨q0, q1, q2, A0, n0, c0, its0, A1, n1, c1, its1, A2, n2, c2, rfl, hso, hb2⟩
      have RR := Lib.hid (HR.out.keep hb2)
      have BB := Lib.hid hb2
      have hz2 := hb2.size
      have hlt2 := HR.out.lt
      cases o with
      | none =>
        have R2 := RR.out.alloc (.cells #[i64 q0, i64 q1, i64 q2, .slice A0 n0 c0, .slice A1 n1 c1, .slice A2 n2 c2] 29)
        have R2' := Lib.hid R2
        have r0 := R2.cell 0; have r1 := R2.cell 1; have r2 := R2.cell 2; have r3 := R2.cell 3; have r4 := R2.cell 4; have r5 := R2.cell 5
        have k0 := R2.frozen 0; have k1 := R2.frozen 1; have k2 := R2.frozen 2; have k3 := R2.frozen 3; have k4 := R2.frozen 4; have k5 := R2.frozen 5
        simp at r0 r1 r2 r3 r4 r5
        clear hso hb2 R2
        simp only [Option.isSome_none]
        go_wp2_with fail
        refine bodyPost_ret (v := .tuple #[.agg #[i64 0, i64 0, i64 0, .slice none 0 0, .slice none 0 0, .slice none 0 0], i64 3]) (by simp [results, Try.results54, go_sem, r0, r1, r2, r3, r4, r5]) rfl ?_
        exact FoOut.bad 3 (below_set6 (below_chain (HBW.out.trans (BB.out.mono HBW.out.size)) (by omega) (below_size.alloc (Nat.le_refl _) _)) (Nat.le_refl _))
      | some F =>
        obtain ⟨⟨e0, e1, e2⟩, hfo⟩ := hso F rfl
        have E0 := Lib.hid e0; have E1 := Lib.hid e1; have E2 := Lib.hid e2
        clear e0 e1 e2
        have HFO := Lib.hid hfo
        have R2 := RR.out.alloc (.cells #[i64 q0, i64 q1, i64 q2, .slice A0 n0 c0, .slice A1 n1 c1, .slice A2 n2 c2] 29)
        have M2 := Blk.new w2 29 #[i64 q0, i64 q1, i64 q2, .slice A0 n0 c0, .slice A1 n1 c1, .slice A2 n2 c2]
        have r0 := R2.cell 0; have r1 := R2.cell 1; have r2 := R2.cell 2; have r3 := R2.cell 3; have r4 := R2.cell 4; have r5 := R2.cell 5
        have k0 := R2.frozen 0; have k1 := R2.frozen 1; have k2 := R2.frozen 2; have k3 := R2.frozen 3; have k4 := R2.frozen 4; have k5 := R2.frozen 5
        have m0 := M2.cell 0; have m1 := M2.cell 1; have m2 := M2.cell 2; have m3 := M2.cell 3; have m4 := M2.cell 4; have m5 := M2.cell 5
        simp at r0 r1 r2 r3 r4 r5 m0 m1 m2 m3 m4 m5
        clear hso hb2 R2 M2 hfo
        simp only [Option.isSome_some]
        go_wp2_with fail
        refine bodyPost_ret (v := .tuple #[.agg #[i64 q0, i64 q1, i64 q2, .slice A0 n0 c0, .slice A1 n1 c1, .slice A2 n2 c2], i64 0]) (by simp [results, Try.results54, go_sem, r0, r1, r2, r3, r4, r5]) rfl ?_
        rw [show q0 = s from E0.out, E1.out, E2.out]
        exact FoOut.good2 BB.out HFO.out (below_size.alloc (Nat.le_refl _) _) HBW.out HR.out.lt
/-- what repeatsIn answers -/
def repF (s : Int) (a b c : List Int) : FR × Int := if lenB a b c then foundF s (findF a b c (b.length - a.length)) else (zeroF, 7)
end Go.Proofs.Ytmmgejnhfpfmnaa
