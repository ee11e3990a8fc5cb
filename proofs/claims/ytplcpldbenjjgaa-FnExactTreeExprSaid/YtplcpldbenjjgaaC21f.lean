/-
  Contracts of chapter 21 (trees): trees in memory; HeadOf and TailOf of the program.
-/
import Derived.Test.YtplcpldbenjjgaaPlainT
import Derived.Test.YtplcpldbenjjgaaApp
import Derived.Test.YtplcpldbenjjgaaC01
import Derived.Test.YtplcpldbenjjgaaC21e
import Derived.Laws.EntriesVeiled
namespace Go.Proofs.Ytplcpldbenjjgaa
open Go.RowKit

/-- a tree in memory, in blocks from lo up to hi -/
def TreeP (w : World) (lo hi : Nat) : Option Addr → Tr → Prop
  | p, .nil => p = none
  | p, .node a b => ∃ (g : Nat) (pa pb : Option Addr), p = some ⟨g, 0, none⟩ ∧ lo ≤ g ∧ g < hi ∧ Blk w g 158 #[.pointer pa, .pointer pb, i64 (szT (.node a b))] ∧ TreeP w lo hi pa a ∧ TreeP w lo hi pb b
theorem TreeP.move {w w' : World} {lo hi : Nat} (hk : ∀ g, lo ≤ g → g < hi → g < w.heap.size → w'.heap[g]? = w.heap[g]?) : ∀ (t : Tr) (p : Option Addr), TreeP w lo hi p t → TreeP w' lo hi p t
  | .nil, _, h => h
  | .node a b, _, ⟨g, pa, pb, e, h1, h2, hb, ha, hbb⟩ => ⟨g, pa, pb, e, h1, h2, (hk g h1 h2 hb.lt).trans hb, TreeP.move hk a pa ha, TreeP.move hk b pb hbb⟩
theorem TreeP.keep {w w' : World} {lo hi : Nat} {t : Tr} {p : Option Addr} (h : TreeP w lo hi p t) (hb : Below w.heap.size w w') : TreeP w' lo hi p t := TreeP.move (fun g _ _ hl => hb.block g hl) t p h
theorem TreeP.keepR {w w' : World} {lo hi l r : Nat} {t : Tr} {p : Option Addr} (h : TreeP w lo hi p t) (hk : KeepR l r w w') (hx : r ≤ lo ∨ hi ≤ l) : TreeP w' lo hi p t := TreeP.move (fun g h1 h2 hl => hk.block g hl (by omega)) t p h
theorem TreeP.belowB {w w' : World} {lo hi B : Nat} {t : Tr} {p : Option Addr} (h : TreeP w lo hi p t) (hb : Below B w w') (hB : hi ≤ B) : TreeP w' lo hi p t := TreeP.move (fun g _ h2 _ => hb.block g (by omega)) t p h
theorem TreeP.drew {w : World} {lo hi : Nat} {t : Tr} {p : Option Addr} (h : TreeP w lo hi p t) : TreeP w.drew lo hi p t := h.keep (below_drew below_size)
theorem TreeP.wider {w : World} {lo hi lo' hi' : Nat} (h1 : lo' ≤ lo) (h2 : hi ≤ hi') : ∀ (t : Tr) (p : Option Addr), TreeP w lo hi p t → TreeP w lo' hi' p t
  | .nil, _, h => h
  | .node a b, _, ⟨g, pa, pb, e, l1, l2, hb, ha, hbb⟩ => ⟨g, pa, pb, e, by omega, by omega, hb, TreeP.wider h1 h2 a pa ha, TreeP.wider h1 h2 b pb hbb⟩

theorem nodesOf_c (p : Option Addr) (t : Tr) (lo hi : Nat) (w : World) (h : TreeP w lo hi p t) :
    Calls Try.prog 156 #[.pointer p] w fun e w' => e = .returned (.int .i64 (szT t)) ∧ w = w' := by
  cases t with
  | nil =>
    obtain rfl : p = none := h
    go_enter Try.func156, Try.ntmps156
    go_wp2_with fail
    go_ret
    exact ⟨rfl, rfl⟩
  | node a b =>
    obtain ⟨g, pa, pb, rfl, h1, h2, hb, ha, hbb⟩ := h
    have c2 := hb.cell 2
    simp at c2
    clear hb ha hbb
    go_enter Try.func156, Try.ntmps156
    go_wp2_with fail
    go_ret
    exact ⟨rfl, rfl⟩
theorem hdT_c (p : Option Addr) (t : Tr) (lo hi : Nat) (w : World) (h : TreeP w lo hi p t) :
    Calls Try.prog 82 #[.pointer p] w fun e w' => ∃ q, e = .returned (.pointer q) ∧ TreeP w lo hi q (hdT t) ∧ w = w' := by
  cases t with
  | nil =>
    obtain rfl : p = none := h
    go_enter Try.func82, Try.ntmps82
    go_wp2_with fail
    go_ret
    exact ⟨_, rfl, rfl, rfl⟩
  | node a b =>
    obtain ⟨g, pa, pb, rfl, h1, h2, hb, ha, hbb⟩ := h
    have c2 := hb.cell 0
    simp at c2
    clear hb
    go_enter Try.func82, Try.ntmps82
    go_wp2_with fail
    go_ret
    exact ⟨_, rfl, by first | exact ha | exact hbb, rfl⟩
theorem tlT_c (p : Option Addr) (t : Tr) (lo hi : Nat) (w : World) (h : TreeP w lo hi p t) :
    Calls Try.prog 84 #[.pointer p] w fun e w' => ∃ q, e = .returned (.pointer q) ∧ TreeP w lo hi q (tlT t) ∧ w = w' := by
  cases t with
  | nil =>
    obtain rfl : p = none := h
    go_enter Try.func84, Try.ntmps84
    go_wp2_with fail
    go_ret
    exact ⟨_, rfl, rfl, rfl⟩
  | node a b =>
    obtain ⟨g, pa, pb, rfl, h1, h2, hb, ha, hbb⟩ := h
    have c2 := hb.cell 1
    simp at c2
    clear hb
    go_enter Try.func84, Try.ntmps84
    go_wp2_with fail
    go_ret
    exact ⟨_, rfl, by first | exact ha | exact hbb, rfl⟩
theorem pair_c (p q : Option Addr) (a b : Tr) (lo hi : Nat) (w : World) (ha : TreeP w lo hi p a) (hb : TreeP w lo hi q b) (hs : szT a ≤ 1000000) (hs' : szT b ≤ 1000000) (hl : lo ≤ w.heap.size) :
    Calls Try.prog 138 #[.pointer p, .pointer q] w fun e w' => ∃ r, e = .returned (.pointer r) ∧ TreeP w' lo (max hi w'.heap.size) r (.node a b) ∧ Below w.heap.size w w' := by
  have HA := Lib.hid ha; have HB := Lib.hid hb
  clear ha hb
  go_enter Try.func138, Try.ntmps138
  go_wp2_with fail
  refine (nodesOf_c p a lo hi _ HA.out).mono ?_
  rintro e w' ⟨rfl, rfl⟩
  go_wp2_with fail
  refine (nodesOf_c q b lo hi _ HB.out).mono ?_
  rintro e w' ⟨rfl, rfl⟩
  go_wp2_with fail
  go_ret
  have hbl : Below w.heap.size w (w.alloc (.cells #[.pointer p, .pointer q, i64 (1 + szT a + szT b)] 158)) := below_size.alloc (Nat.le_refl _) _
  refine ⟨_, rfl, ⟨w.heap.size, p, q, rfl, hl, by simp; omega, ?_, TreeP.wider (Nat.le_refl _) (by omega) a p (HA.out.keep hbl), TreeP.wider (Nat.le_refl _) (by omega) b q (HB.out.keep hbl)⟩, hbl⟩
  rw [szT_node]
  exact Blk.new w 158 _
/-- what the reading closure holds -/
structure Bld (w : World) (b k n c : Nat) (A : Option Addr) (xs : List Bool) : Prop where
  list : Blk w b 22 #[.slice A n c]
  place : Blk w (b + 1) 3 #[i64 k]
  self : Blk w (b + 2) 107 #[.func (.func 137) #[] #[.pointer (some ⟨b, 0, none⟩), .pointer (some ⟨b + 1, 0, none⟩), .pointer (some ⟨b + 2, 0, none⟩)]]
  rd : RdU w b A n (xs.map Value.bool)
theorem Bld.keepR {w w' : World} {b k k' n c : Nat} {A : Option Addr} {xs : List Bool} (h : Bld w b k n c A xs) (hk : KeepR (b + 1) (b + 2) w w') (hp : Blk w' (b + 1) 3 #[i64 k']) : Bld w' b k' n c A xs :=
  ⟨(hk.block b h.list.lt (.inl (by omega))).trans h.list, hp, (hk.block (b + 2) h.self.lt (.inr (by omega))).trans h.self, h.rd.keep hk (by omega)⟩
set_option maxHeartbeats 2000000 in
set_option maxRecDepth 100000 in
theorem build_c (b n c : Nat) (A : Option Addr) (xs : List Bool) (hn : n ≤ 1000000) : ∀ (t : Tr) (k : Nat) (rest : List Bool) (w : World), Bld w b k n c A xs → xs.drop k = flat t ++ rest → k ≤ n →
    Calls Try.prog 137 #[.pointer (some ⟨b, 0, none⟩), .pointer (some ⟨b + 1, 0, none⟩), .pointer (some ⟨b + 2, 0, none⟩)] w fun e w' => ∃ p, e = .returned (.pointer p) ∧ Bld w' b (k + szT t) n c A xs ∧ TreeP w' (b + 3) w'.heap.size p t ∧ KeepR (b + 1) (b + 2) w w' := by
  intro t
  induction t with
  | nil =>
    intro k rest w h hx hk
    have HL := Lib.hid (show xs.length = n by have := h.rd.1.1; simpa using this)
    have hkn : k < n := by
      have h1 := congrArg List.length hx
      simp [flat] at h1
      have := HL.out
      omega
    obtain ⟨ad, x, rfl, hab, hx2, hc0⟩ := RdB.at_ (xs := xs) h.rd.1 hkn
    have : x = false := by
      have := drop_at hx2
      rw [hx] at this
      simp [flat] at this
      exact this.1
    subst this
    have c0 := h.list.cell 0; have c1 := h.place.cell 0
    have f1 := h.place.frozen 0
    simp at c0 c1
    have H := Lib.hid h
    clear h hx hx2
    go_enter Try.func137, Try.ntmps137
    go_wp2_with fail
    go_ret
    have hkk : KeepR (b + 1) (b + 2) w (w.setCell ⟨b + 1, 0, none⟩ (i64 (k + 1))) := (KeepR.refl _ _ _).setCell (by simp) (by simp) _
    refine ⟨_, rfl, H.out.keepR hkk ?_, rfl, hkk⟩
    have := H.out.place.set_ 0 (i64 (k + 1))
    exact this
  | node a bb iha ihb =>
    intro k rest w h hx hk
    have HL := Lib.hid (show xs.length = n by have := h.rd.1.1; simpa using this)
    have hlen : k + (1 + szT a + szT bb) + rest.length = n := by
      have h1 := congrArg List.length hx
      simp [flat] at h1
      have := HL.out
      unfold szT
      omega
    have hpa := szT_pos a; have hpb := szT_pos bb
    have hkn : k < n := by omega
    obtain ⟨ad, x, rfl, hab, hx2, hc0⟩ := RdB.at_ (xs := xs) h.rd.1 hkn
    have hd := drop_at hx2
    rw [hx] at hd
    simp only [flat, List.cons_append, List.cons.injEq] at hd
    obtain ⟨hxt, hd⟩ := hd
    subst hxt
    have HD1 := Lib.hid (show xs.drop (k + 1) = flat a ++ (flat bb ++ rest) by rw [← hd, List.append_assoc])
    have HD2 := Lib.hid (show xs.drop (k + 1 + szT a) = flat bb ++ rest by rw [← List.drop_drop, HD1.out]; simp [szT])
    have HN := Lib.hid hlen
    have l1 : k + 1 + szT a + szT bb ≤ n := by omega
    have c0 := h.list.cell 0; have c1 := h.place.cell 0; have c2 := h.self.cell 0
    have f1 := h.place.frozen 0
    simp at c0 c1 c2
    have hkk : KeepR (b + 1) (b + 2) w (w.setCell ⟨b + 1, 0, none⟩ (i64 ((k : Int) + 1))) := (KeepR.refl _ _ _).setCell (by simp) (by simp) _
    have h1 : Bld (w.setCell ⟨b + 1, 0, none⟩ (i64 ((k : Int) + 1))) b (k + 1) n c (some ad) xs := h.keepR hkk (by have := h.place.set_ 0 (i64 ((k : Int) + 1)); simpa using this)
    have d2 := h1.self.cell 0
    simp at d2
    have H1 := Lib.hid h1; have K1 := Lib.hid hkk
    have hsz := h.self.lt
    clear h hx hx2 hlen h1 hkk hd
    go_enter Try.func137, Try.ntmps137
    go_wp2_with fail
    refine (iha (k + 1) (flat bb ++ rest) _ H1.out HD1.out (by omega)).mono ?_
    rintro e w1 ⟨p, rfl, hB1, hT1, hk1⟩
    have e2 := hB1.self.cell 0
    simp at e2
    have H2 := Lib.hid hB1; have T1 := Lib.hid hT1; have K2 := Lib.hid (K1.out.trans hk1)
    have hs1 := hk1.size
    simp at hs1
    clear hB1 hT1 hk1 d2 c0 c1 c2 f1 hc0
    go_wp2_with fail
    refine (ihb (k + 1 + szT a) rest _ H2.out HD2.out (by omega)).mono ?_
    rintro e w2 ⟨q, rfl, hB2, hT2, hk2⟩
    have H3 := Lib.hid hB2; have T2 := Lib.hid hT2; have K3 := Lib.hid (K2.out.trans hk2)
    have T3 := Lib.hid (TreeP.wider (Nat.le_refl _) hk2.size a p (T1.out.keepR hk2 (.inl (by omega))))
    have hs2 := hk2.size
    clear hB2 hT2 hk2 e2
    go_wp2_with fail
    refine (pair_c p q a bb (b + 3) w2.heap.size _ T3.out T2.out (by omega) (by omega) (by omega)).mono ?_
    rintro e w3 ⟨r, rfl, hT3, hb3⟩
    have T4 := Lib.hid (TreeP.wider (Nat.le_refl _) (Nat.max_le.2 ⟨hb3.size, Nat.le_refl _⟩) _ _ hT3)
    have hs3 := hb3.size
    have K4 := Lib.hid (K3.out.trans (KeepR.of_below hb3))
    have H4 := Lib.hid (H3.out.keepR (KeepR.of_below hb3) (H3.out.place.keep hb3))
    clear hT3 hb3
    go_wp2_with fail
    go_ret
    exact ⟨_, rfl, by rw [szT_node, show k + (1 + szT a + szT bb) = k + 1 + szT a + szT bb by omega]; exact H4.out, T4.out, K4.out⟩
set_option maxHeartbeats 2000000 in
set_option maxRecDepth 100000 in
theorem treeOf_c (A : Option Addr) (n c : Nat) (t : Tr) (w : World) (h : RdB w A n (flat t)) (hn : n ≤ 1000000) :
    Calls Try.prog 99 #[.slice A n c] w fun e w' => ∃ p, e = .returned (.pointer p) ∧ TreeP w' w.heap.size w'.heap.size p t ∧ Below w.heap.size w w' := by
  have H := Lib.hid (RdU.mk' h); clear h
  go_enter Try.func99, Try.ntmps99
  go_wp2_with fail
  have hB : Bld (((w.alloc (.cells #[.slice A n c] 22)).alloc (.cells #[.int .i64 0] 3)).alloc (.cells #[.func (.func 137) #[] #[.pointer (some ⟨w.heap.size, 0, none⟩), .pointer (some ⟨w.heap.size + 1, 0, none⟩), .pointer (some ⟨w.heap.size + 1 + 1, 0, none⟩)]] 107)) w.heap.size 0 n c A (flat t) := by
    refine ⟨((Blk.new w _ _).alloc _).alloc _, ?_, ?_, ?_⟩
    · have := (Blk.new (w.alloc (.cells #[.slice A n c] 22)) 3 #[.int .i64 0]).alloc (.cells #[.func (.func 137) #[] #[.pointer (some ⟨w.heap.size, 0, none⟩), .pointer (some ⟨w.heap.size + 1, 0, none⟩), .pointer (some ⟨w.heap.size + 1 + 1, 0, none⟩)]] 107)
      rw [World.size_alloc] at this
      exact this
    · have := Blk.new ((w.alloc (.cells #[.slice A n c] 22)).alloc (.cells #[.int .i64 0] 3)) 107 #[.func (.func 137) #[] #[.pointer (some ⟨w.heap.size, 0, none⟩), .pointer (some ⟨w.heap.size + 1, 0, none⟩), .pointer (some ⟨w.heap.size + 1 + 1, 0, none⟩)]]
      rw [World.size_alloc, World.size_alloc] at this
      exact this
    · exact H.out.below (((below_size.alloc (Nat.le_refl _) _).alloc (by simp) _).alloc (by simp; omega) _)
  refine (build_c w.heap.size n c A (flat t) hn t 0 [] _ hB (by simp) (by omega)).mono ?_
  rintro e w1 ⟨p, rfl, _, hT, hk⟩
  have T1 := Lib.hid (TreeP.wider (lo' := w.heap.size) (by omega) (Nat.le_refl _) t p hT)
  have K1 := Lib.hid (hk.up1.up1.up1.below (B := w.heap.size) (by omega) (Nat.le_refl _))
  clear hB hT hk
  go_wp2_with fail
  go_ret
  exact ⟨_, rfl, T1.out, K1.out⟩
/-- what the collecting closure holds: the slice q at block b, itself at b + 1 -/
structure Vis (w : World) (b q : Nat) (xs : List Bool) : Prop where
  out : ∃ C cc, Blk w b 22 #[.slice C q cc] ∧ Own w (b - 1) 4 1 C q cc (xs.map Value.bool)
  self : Blk w (b + 1) 184 #[.func (.func 158) #[] #[.pointer (some ⟨b, 0, none⟩), .pointer (some ⟨b + 1, 0, none⟩)]]
theorem Vis.drew {w : World} {b q : Nat} {xs : List Bool} (h : Vis w b q xs) : Vis w.drew b q xs := ⟨h.out, h.self⟩
theorem Vis.put {w : World} {b q cc g' cap : Nat} {xs : List Bool} {C : Option Addr} {x : Bool} (hC : Blk w b 22 #[.slice C q cc]) (hO : Own w (b - 1) 4 1 (some ⟨g', 0, none⟩) (q + 1) cap (xs.map Value.bool ++ [.bool x]))
    (hS : Blk w (b + 1) 184 #[.func (.func 158) #[] #[.pointer (some ⟨b, 0, none⟩), .pointer (some ⟨b + 1, 0, none⟩)]]) : Vis (w.setCell ⟨b, 0, none⟩ (.slice (some ⟨g', 0, none⟩) (q + 1) cap)) b (q + 1) (xs ++ [x]) := by
  refine ⟨⟨some ⟨g', 0, none⟩, cap, ?_, ?_⟩, ?_⟩
  · have := hC.set_ 0 (.slice (some ⟨g', 0, none⟩) (q + 1) cap); simpa using this
  · have := hO.far (p := ⟨b, 0, none⟩) (fun ad ha => hO.ne_ hC (by decide) ad ha) (.slice (some ⟨g', 0, none⟩) (q + 1) cap)
    rw [List.map_append]; exact this
  · exact hS.far (by simp) _
set_option maxHeartbeats 2000000 in
set_option maxRecDepth 100000 in
theorem visit_c (b lo hi : Nat) (hb0 : 0 < b) (hhb : hi ≤ b - 1) : ∀ (t : Tr) (p : Option Addr) (q : Nat) (xs : List Bool) (w : World), Vis w b q xs → TreeP w lo hi p t → q + szT t ≤ 1000000 →
    Calls Try.prog 158 #[.pointer p, .pointer (some ⟨b, 0, none⟩), .pointer (some ⟨b + 1, 0, none⟩)] w fun e w' => e = .returned (.tuple #[]) ∧ Vis w' b (q + szT t) (xs ++ flat t) ∧ Below (b - 1) w w' := by
  intro t
  induction t with
  | nil =>
    intro p q xs w h ht hq
    obtain rfl : p = none := ht
    obtain ⟨⟨C, cc, hC, hO⟩, hS⟩ := h
    have c0 := hC.cell 0; have f0 := hC.frozen 0
    simp at c0
    have HC := Lib.hid hC; have HO := Lib.hid hO; have HS := Lib.hid hS
    have hlt := hC.lt; have hlt2 := hS.lt
    clear hC hO hS
    rw [szT_nil] at hq ⊢
    go_enter Try.func158, Try.ntmps158
    go_wp2_with (at_builtin; refine wp_app1 (by rfl) _ _ 22 4 (.bool false) 1 (by rfl) Try.underlying22 info_bool1 rfl (b - 1) C q cc (xs.map Value.bool) (by rfl) (by exact HO.out.alloc _) w.heap.size (.bool false) (by rfl) (by exact new_cell _ _ _ 0) rfl (by omega) (by omega) (by simp; omega) ?_; intro g' cap w2 own2 hb2 hk2 hg2 hz2; have hC2 : Blk w2 b 22 #[.slice C q cc] := (hk2 b (by simp; omega) (fun ad ha => HO.out.ne_ HC.out (by decide) ad ha)).trans (HC.out.alloc _); have c2 := hC2.cell 0; have f2 := hC2.frozen 0; simp at c2)
    have hS2 : Blk w2 (b + 1) 184 #[.func (.func 158) #[] #[.pointer (some ⟨b, 0, none⟩), .pointer (some ⟨b + 1, 0, none⟩)]] := (hk2 (b + 1) (by simp; omega) (fun ad ha => HO.out.ne_ HS.out (by decide) ad ha)).trans (HS.out.alloc _)
    have C2 := Lib.hid hC2; have S2 := Lib.hid hS2; have O2 := Lib.hid own2; have B2 := Lib.hid ((below_size.alloc (Nat.le_refl _) _).mono (by omega) |>.trans hb2)
    clear hC2 hS2 own2 hb2 hk2 hg2 hz2 c0 f0
    go_end0
    exact ⟨rfl, Vis.put C2.out O2.out S2.out, B2.out.setCell (by simp) _⟩
  | node a bb iha ihb =>
    intro p q xs w h ht hq
    obtain ⟨⟨C, cc, hC, hO⟩, hS⟩ := h
    have c0 := hC.cell 0; have f0 := hC.frozen 0
    simp at c0
    have HC := Lib.hid hC; have HO := Lib.hid hO; have HS := Lib.hid hS
    have hlt := hC.lt; have hlt2 := hS.lt
    clear hC hO hS
    obtain ⟨g, pa, pb, rfl, h1, h2, hb, ha, hbb⟩ := ht
    have HT := Lib.hid hb; have HTA := Lib.hid ha; have HTB := Lib.hid hbb
    have hpa := szT_pos a; have hpb := szT_pos bb
    rw [szT_node] at hq ⊢
    clear hb ha hbb
    go_enter Try.func158, Try.ntmps158
    go_wp2_with (at_builtin; refine wp_app1 (by rfl) _ _ 22 4 (.bool false) 1 (by rfl) Try.underlying22 info_bool1 rfl (b - 1) C q cc (xs.map Value.bool) (by rfl) (by exact HO.out.alloc _) w.heap.size (.bool true) (by rfl) (by exact new_cell _ _ _ 0) rfl (by omega) (by omega) (by simp; omega) ?_; intro g' cap w2 own2 hb2 hk2 hg2 hz2; have hC2 : Blk w2 b 22 #[.slice C q cc] := (hk2 b (by simp; omega) (fun ad ha => HO.out.ne_ HC.out (by decide) ad ha)).trans (HC.out.alloc _); have c2 := hC2.cell 0; have f2 := hC2.frozen 0; simp at c2)
    have hS2 : Blk w2 (b + 1) 184 #[.func (.func 158) #[] #[.pointer (some ⟨b, 0, none⟩), .pointer (some ⟨b + 1, 0, none⟩)]] := (hk2 (b + 1) (by simp; omega) (fun ad ha => HO.out.ne_ HS.out (by decide) ad ha)).trans (HS.out.alloc _)
    have C2 := Lib.hid hC2; have S2 := Lib.hid hS2; have O2 := Lib.hid own2; have B2 := Lib.hid ((below_size.alloc (Nat.le_refl _) _).mono (by omega) |>.trans hb2)
    have V3 := Vis.put C2.out O2.out S2.out
    have B3 := Lib.hid (B2.out.setCell (p := ⟨b, 0, none⟩) (by simp) (.slice (some ⟨g', 0, none⟩) (q + 1) cap))
    have t3 : Blk (w2.setCell ⟨b, 0, none⟩ (.slice (some ⟨g', 0, none⟩) (q + 1) cap)) g 158 #[.pointer pa, .pointer pb, i64 (szT (.node a bb))] := HT.out.below B3.out (by omega)
    have ta := HTA.out.belowB B3.out hhb; have tb := HTB.out.belowB B3.out hhb
    have s3 := V3.self.cell 0
    have p0 := t3.cell 0
    simp at s3 p0
    have HV := Lib.hid V3; have T3 := Lib.hid t3; have TA := Lib.hid ta; have TB := Lib.hid tb
    clear V3 t3 ta tb hC2 hS2 own2 hb2 hk2 hg2 hz2 c0 f0 c2 f2
    generalize w2.setCell ⟨b, 0, none⟩ (.slice (some ⟨g', 0, none⟩) (q + 1) cap) = w3 at *
    have x0 := Ext.cell s3; have x1 := Ext.cell p0
    refine Mix.wp_region_mix [3, 0, 0, 0, 3, 2] (fun w' => ∃ x : Ext w3, w' = x.w) (by kernel_rfl) (by kernel_rfl) (InExt.drew _) ?_
    repeat (first | (refine Mix.wpMix_read (by rfl) ?_; go_big_quiet_step (fail); refine wpQuiet_nil ?_) | (refine Mix.wpMix_pure (by rfl) ?_; go_big_quiet_step (fail); refine wpQuiet_nil ?_))
    refine Mix.wpMix_tail (by rfl) (fun K hK => ?_)
    go_wp2_with fail
    refine (iha pa (q + 1) (xs ++ [true]) _ HV.out.drew TA.out.drew (by omega)).mono ?_
    rintro e w4 ⟨rfl, hv4, hb4⟩
    have B4 := Lib.hid ((below_drew B3.out).trans hb4)
    have hs4 := hv4.self.cell 0; have t4 := T3.out.drew.below hb4 (by omega)
    have p4 := t4.cell 1
    simp at hs4 p4
    have HV4 := Lib.hid hv4; have TB4 := Lib.hid (TB.out.drew.belowB hb4 hhb)
    clear hv4 hb4 t4 s3 p0 x0 x1
    go_wp2_with fail
    refine hK _ _ ?_
    clear hK K
    (refine Mix.wpMix_nil ?_; try simp only [Exit.then])
    go_wp2_with fail
    have x0 := Ext.cell hs4; have x1 := Ext.cell p4
    refine Mix.wp_region_mix [3, 0, 0, 0, 3, 2] (fun w' => ∃ x : Ext w4, w' = x.w) (by kernel_rfl) (by kernel_rfl) (InExt.drew _) ?_
    repeat (first | (refine Mix.wpMix_read (by rfl) ?_; go_big_quiet_step (fail); refine wpQuiet_nil ?_) | (refine Mix.wpMix_pure (by rfl) ?_; go_big_quiet_step (fail); refine wpQuiet_nil ?_))
    refine Mix.wpMix_tail (by rfl) (fun K hK => ?_)
    go_wp2_with fail
    refine (ihb pb (q + 1 + szT a) (xs ++ [true] ++ flat a) _ HV4.out.drew TB4.out.drew (by omega)).mono ?_
    rintro e w5 ⟨rfl, hv5, hb5⟩
    have B5 := Lib.hid ((below_drew B4.out).trans hb5)
    have HV5 := Lib.hid hv5
    clear hv5 hb5 hs4 p4 x0 x1
    go_wp2_with fail
    refine hK _ _ ?_
    clear hK K
    (refine Mix.wpMix_nil ?_; try simp only [Exit.then])
    go_wp2_with fail
    go_end0
    refine ⟨rfl, ?_, B5.out⟩
    have := HV5.out
    rw [show q + (1 + szT a + szT bb) = q + 1 + szT a + szT bb by omega, show xs ++ flat (.node a bb) = xs ++ [true] ++ flat a ++ flat bb by simp [flat]]
    exact this
set_option maxHeartbeats 2000000 in
set_option maxRecDepth 100000 in
theorem list_c (p : Option Addr) (t : Tr) (lo : Nat) (w : World) (h : TreeP w lo w.heap.size p t) (hs : szT t ≤ 1000000) :
    Calls Try.prog 136 #[.pointer p] w fun e w' => ∃ A c, e = .returned (.slice A (szT t) c) ∧ Wr w' w.heap.size w'.heap.size A (szT t) ((flat t).map Value.bool) ∧ Below w.heap.size w w' := by
  have H := Lib.hid h; clear h
  have hmk : (Instr.makeSlice 22 (.int .i64 0) (.int .i64 (szT t))).run Try.prog w = .ok (.slice (some ⟨w.heap.size, 0, none⟩) 0 (szT t)) (w.alloc (.cells (Array.replicate (szT t) (.bool false)) 4)) := run_mk (P := Try.prog) 22 4 (.bool false) 1 Try.underlying22 info_bool1 rfl .i64 .i64 0 (szT t) (by omega) (by omega) (by omega) w
  go_enter Try.func136, Try.ntmps136
  go_wp2_with fail
  refine (nodesOf_c p t lo w.heap.size _ H.out).mono ?_
  rintro e w' ⟨rfl, rfl⟩
  go_wp2_with fail
  clear hmk
  have hV : Vis (((w.alloc (.cells (Array.replicate (szT t) (.bool false)) 4)).alloc (.cells #[.slice (some ⟨w.heap.size, 0, none⟩) 0 (szT t)] 22)).alloc (.cells #[.func (.func 158) #[] #[.pointer (some ⟨w.heap.size + 1, 0, none⟩), .pointer (some ⟨w.heap.size + 1 + 1, 0, none⟩)]] 184)) (w.heap.size + 1) 0 [] := by
    refine ⟨⟨some ⟨w.heap.size, 0, none⟩, szT t, ?_, ((Own.made _ _ (by simp) (by omega)).alloc _).alloc _⟩, ?_⟩
    · have := (Blk.new (w.alloc (.cells (Array.replicate (szT t) (.bool false)) 4)) 22 #[.slice (some ⟨w.heap.size, 0, none⟩) 0 (szT t)]).alloc (.cells #[.func (.func 158) #[] #[.pointer (some ⟨w.heap.size + 1, 0, none⟩), .pointer (some ⟨w.heap.size + 1 + 1, 0, none⟩)]] 184)
      rw [World.size_alloc] at this
      exact this
    · have := Blk.new ((w.alloc (.cells (Array.replicate (szT t) (.bool false)) 4)).alloc (.cells #[.slice (some ⟨w.heap.size, 0, none⟩) 0 (szT t)] 22)) 184 #[.func (.func 158) #[] #[.pointer (some ⟨w.heap.size + 1, 0, none⟩), .pointer (some ⟨w.heap.size + 1 + 1, 0, none⟩)]]
      rw [World.size_alloc, World.size_alloc] at this
      exact this
  have hbl : Below w.heap.size w (((w.alloc (.cells (Array.replicate (szT t) (.bool false)) 4)).alloc (.cells #[.slice (some ⟨w.heap.size, 0, none⟩) 0 (szT t)] 22)).alloc (.cells #[.func (.func 158) #[] #[.pointer (some ⟨w.heap.size + 1, 0, none⟩), .pointer (some ⟨w.heap.size + 1 + 1, 0, none⟩)]] 184)) := ((below_size.alloc (Nat.le_refl _) _).alloc (by simp) _).alloc (by simp; omega) _
  refine (visit_c (w.heap.size + 1) lo w.heap.size (by omega) (by omega) t p 0 [] _ hV (H.out.keep hbl) (by omega)).mono ?_
  rintro e w1 ⟨rfl, hv, hb⟩
  obtain ⟨⟨C, cc, hC, hO⟩, hS⟩ := hv
  have c0 := hC.cell 0
  simp at c0
  have HO := Lib.hid hO; have HB := Lib.hid (hbl.trans hb)
  clear hC hO hS hV hbl hb
  go_wp2_with fail
  go_ret
  refine ⟨_, _, rfl, ?_, HB.out⟩
  have := HO.out.wr
  simpa using this
theorem checked_c (p : Option Addr) (t : Tr) (lo : Nat) (w : World) (h : TreeP w lo w.heap.size p t) (hs : szT t ≤ 2000) :
    Calls Try.prog 128 #[.pointer p] w fun e w' => ∃ A c, e = .returned (.tuple #[.slice A (szT t) c, .int .i64 0]) ∧ Wr w' w.heap.size w'.heap.size A (szT t) ((flat t).map Value.bool) ∧ Below w.heap.size w w' := by
  have H := Lib.hid h; clear h
  go_enter Try.func128, Try.ntmps128
  go_wp2_with fail
  refine (nodesOf_c p t lo w.heap.size _ H.out).mono ?_
  rintro e w' ⟨rfl, rfl⟩
  go_wp2_with fail
  refine (list_c p t lo _ H.out (by omega)).mono ?_
  rintro e w1 ⟨A, c, rfl, hw, hb⟩
  have HW := Lib.hid hw; have HB := Lib.hid hb
  clear hw hb
  go_wp2_with fail
  go_ret2
  exact ⟨_, _, rfl, HW.out, HB.out⟩
theorem follows_c (x : Bool) (w : World) : Calls Try.prog 135 #[.bool x] w fun e w' => e = .returned (.int .i64 (fB x)) ∧ w = w' := by
  cases x
  all_goals
    go_enter Try.func135, Try.ntmps135
    go_wp2_with fail
    go_ret
    exact ⟨rfl, rfl⟩
theorem fB_le (x : Bool) : fB x ≤ 2 := by cases x <;> decide
set_option maxHeartbeats 1000000 in
theorem termEndB_c (A : Option Addr) (n c k0 : Nat) (xs : List Bool) (w : World) (h : RdB w A n xs) (hn : n ≤ 1000000000) (hk : k0 ≤ n) :
    Calls Try.prog 134 #[.slice A n c, .int .i64 k0, .func (.func 135) #[] #[]] w fun e w' => e = .returned (.int .i64 (endG fB 1 k0 (xs.drop k0))) ∧ w = w' := by
  have HL := Lib.hid h.len
  have H := Lib.hid h; clear h
  go_enter Try.func134, Try.ntmps134
  go_wp2_with fail
  go_loop [1, 7] (fun kv mv => ∃ k m : Nat, k ≤ n ∧ m ≤ k + 1 ∧ kv = .int .i64 k ∧ mv = .int .i64 m ∧ Hid (endG fB 1 k0 (xs.drop k0) = endG fB m k (xs.drop k))) (fun kv _ => n - (intOf kv).toNat)
  case atStart => exact ⟨k0, 1, by omega, by omega, rfl, rfl, rfl⟩
  case round =>
    obtain ⟨k, m, hk, hm, rfl, rfl, hr⟩ := hrel
    by_cases hm0 : 0 < m
    · by_cases hlt : k < n
      · obtain ⟨ad, x, rfl, hab, hx, hc0⟩ := H.out.at_ hlt
        have HR := Lib.hid (show endG fB 1 k0 (xs.drop k0) = endG fB (m - 1 + fB x) (k + 1) (xs.drop (k + 1)) by
          obtain ⟨m', rfl⟩ : ∃ m', m = m' + 1 := ⟨m - 1, by omega⟩
          rw [hr.out, drop_at hx, endG]; rfl)
        have hmk := fB_le x
        clear hx
        go_wp2_with fail
        refine (follows_c _ _).mono ?_
        rintro e w1 ⟨rfl, rfl⟩
        go_wp2_with fail
        go_round
        case rel => exact ⟨k + 1, m - 1 + fB x, by omega, by omega, by go_num, by go_num, HR.out⟩
        case measure => simp [intOf]; omega
      · have HR := Lib.hid (show endG fB 1 k0 (xs.drop k0) = -1 by
          obtain ⟨m', rfl⟩ : ∃ m', m = m' + 1 := ⟨m - 1, by omega⟩
          rw [hr.out, List.drop_eq_nil_of_le (by rw [HL.out]; omega), endG])
        go_wp2_with fail
        go_ret
        exact ⟨by rw [HR.out]; rfl, rfl⟩
    · have HR := Lib.hid (show endG fB 1 k0 (xs.drop k0) = k by
        obtain rfl : m = 0 := by omega
        rw [hr.out, endG])
      go_wp2_with fail
      go_ret
      exact ⟨by rw [HR.out]; rfl, rfl⟩
theorem sizeB_c (A : Option Addr) (n c : Nat) (w : World) : Calls Try.prog 133 #[.slice A n c] w fun e w' => e = .returned (.int .i64 n) ∧ w = w' := by
  go_enter Try.func133, Try.ntmps133
  go_wp2_with fail
  go_ret
  exact ⟨rfl, rfl⟩
theorem isTree_c (A : Option Addr) (n c : Nat) (xs : List Bool) (b : Bool) (w : World) (h : RdB w A n xs) (hn : n ≤ 1000000000) (hb : treeB xs = b) :
    Calls Try.prog 97 #[.slice A n c] w fun e w' => e = .returned (.bool b) ∧ w = w' := by
  have HL := Lib.hid h.len
  have HB := Lib.hid hb; clear hb
  cases hs : inB (n : Int) 1 2000
  · have HR := Lib.hid (show false = b by
      rw [← HB.out]
      rcases inB_f hs with h1 | h1
      · have : xs = [] := List.eq_nil_of_length_eq_zero (by rw [HL.out]; omega)
        subst this; rfl
      · have hl : ¬ xs.length ≤ 2000 := by rw [HL.out]; omega
        simp [treeB, hl])
    go_enter Try.func97, Try.ntmps97
    go_wp2_with fail
    refine (sizeB_c _ _ _ _).mono ?_
    rintro e w' ⟨rfl, rfl⟩
    go_wp2_with fail
    refine (within_b _ _ _ _ hs _).mono ?_
    rintro e w' ⟨rfl, rfl⟩
    go_wp2_with fail
    go_ret
    exact ⟨by rw [← HR.out]; rfl, rfl⟩
  · have h12 := inB_t hs
    have HR := Lib.hid (show (endG fB 1 0 xs == (n : Int)) = b by
      have h1 : n ≤ 2000 := by omega
      rw [← HB.out]; simp [treeB, HL.out, h1])
    go_enter Try.func97, Try.ntmps97
    go_wp2_with fail
    refine (sizeB_c _ _ _ _).mono ?_
    rintro e w' ⟨rfl, rfl⟩
    go_wp2_with fail
    refine (within_b _ _ _ _ hs _).mono ?_
    rintro e w' ⟨rfl, rfl⟩
    go_wp2_with fail
    refine (termEndB_c _ _ _ 0 xs _ h hn (by omega)).mono ?_
    rintro e w' ⟨rfl, rfl⟩
    rw [List.drop_zero]
    generalize endG fB 1 0 xs = E at *
    go_wp2_with fail
    go_ret
    exact ⟨by rw [← HR.out]; rfl, rfl⟩
theorem changedHeadOf_c (A : Option Addr) (n c : Nat) (xs : List Bool) (w : World) (h : RdB w A n xs) (hn : n ≤ 1000000000) :
    Calls Try.prog 81 #[.slice A n c, .func (.func 82) #[] #[]] w fun e w' => ∃ A' n' c', e = .returned (.tuple #[.slice A' n' c', .int .i64 (headR xs).2]) ∧ Wr w' w.heap.size w'.heap.size A' n' ((headR xs).1.map Value.bool) ∧ n' ≤ 1000000 ∧ Below w.heap.size w w' := by
  cases hx : treeB xs
  · have HR := Lib.hid (show headR xs = ([], 1) by simp [headR, hx])
    go_enter Try.func81, Try.ntmps81
    go_wp2_with fail
    refine (isTree_c _ _ _ xs _ _ h hn hx).mono ?_
    rintro e w' ⟨rfl, rfl⟩
    go_wp2_with fail
    go_ret2
    rw [HR.out]
    exact ⟨_, _, _, rfl, Wr.nil, by omega, below_size⟩
  · obtain ⟨t, ht, hsz⟩ := treeB_of hx
    have HR := Lib.hid (show headR xs = (flat (hdT t), 0) by rw [headR, hx, ht, trOf_flat]; rfl)
    have hls : szT (hdT t) ≤ szT t := by first | exact szT_hd t | exact szT_tl t
    have hnl : n = szT t := by rw [← h.len, ht]; rfl
    have HN := Lib.hid hnl
    have hn2 : n ≤ 2000 := by omega
    clear hnl
    go_enter Try.func81, Try.ntmps81
    go_wp2_with fail
    refine (isTree_c _ _ _ xs _ _ h hn hx).mono ?_
    rintro e w' ⟨rfl, rfl⟩
    go_wp2_with fail
    refine (treeOf_c _ _ _ t _ (by rw [← ht]; exact h) (by omega)).mono ?_
    rintro e w1 ⟨p, rfl, hT, hb⟩
    have T1 := Lib.hid hT; have B1 := Lib.hid hb
    clear hT hb ht hx
    go_wp2_with fail
    refine (hdT_c p t _ _ _ T1.out).mono ?_
    rintro e w1 ⟨q, rfl, hT, rfl⟩
    have T2 := Lib.hid hT
    clear hT
    go_wp2_with fail
    refine (checked_c q (hdT t) _ _ T2.out (by omega)).mono ?_
    rintro e w2 ⟨A', c', rfl, hw, hb⟩
    have W2 := Lib.hid (hw.wider B1.out.size (Nat.le_refl _)); have B2 := Lib.hid (below_chain B1.out B1.out.size hb)
    clear hw hb
    go_wp2_with fail
    go_ret2
    rw [HR.out]
    exact ⟨_, _, _, rfl, W2.out, by omega, B2.out⟩
theorem iHeadOf_c (A : Option Addr) (n c : Nat) (xs : List Bool) (w : World) (h : RdB w A n xs) (hn : n ≤ 1000000000) :
    Calls Try.prog 24 #[.slice A n c] w fun e w' => ∃ A' n' c', e = .returned (.tuple #[.slice A' n' c', .int .i64 (headR xs).2]) ∧ Wr w' w.heap.size w'.heap.size A' n' ((headR xs).1.map Value.bool) ∧ n' ≤ 1000000 ∧ Below w.heap.size w w' := by
  go_enter Try.func24, Try.ntmps24
  go_wp2_with fail
  refine (changedHeadOf_c _ _ _ xs _ h hn).mono ?_
  rintro e w1 ⟨A', n', c', rfl, hw, hn', hb⟩
  have W1 := Lib.hid hw; have B1 := Lib.hid hb
  clear hw hb
  go_wp2_with fail
  go_ret2
  exact ⟨_, _, _, rfl, W1.out, hn', B1.out⟩
theorem changedTailOf_c (A : Option Addr) (n c : Nat) (xs : List Bool) (w : World) (h : RdB w A n xs) (hn : n ≤ 1000000000) :
    Calls Try.prog 81 #[.slice A n c, .func (.func 84) #[] #[]] w fun e w' => ∃ A' n' c', e = .returned (.tuple #[.slice A' n' c', .int .i64 (tailR xs).2]) ∧ Wr w' w.heap.size w'.heap.size A' n' ((tailR xs).1.map Value.bool) ∧ n' ≤ 1000000 ∧ Below w.heap.size w w' := by
  cases hx : treeB xs
  · have HR := Lib.hid (show tailR xs = ([], 1) by simp [tailR, hx])
    go_enter Try.func81, Try.ntmps81
    go_wp2_with fail
    refine (isTree_c _ _ _ xs _ _ h hn hx).mono ?_
    rintro e w' ⟨rfl, rfl⟩
    go_wp2_with fail
    go_ret2
    rw [HR.out]
    exact ⟨_, _, _, rfl, Wr.nil, by omega, below_size⟩
  · obtain ⟨t, ht, hsz⟩ := treeB_of hx
    have HR := Lib.hid (show tailR xs = (flat (tlT t), 0) by rw [tailR, hx, ht, trOf_flat]; rfl)
    have hls : szT (tlT t) ≤ szT t := by first | exact szT_hd t | exact szT_tl t
    have hnl : n = szT t := by rw [← h.len, ht]; rfl
    have HN := Lib.hid hnl
    have hn2 : n ≤ 2000 := by omega
    clear hnl
    go_enter Try.func81, Try.ntmps81
    go_wp2_with fail
    refine (isTree_c _ _ _ xs _ _ h hn hx).mono ?_
    rintro e w' ⟨rfl, rfl⟩
    go_wp2_with fail
    refine (treeOf_c _ _ _ t _ (by rw [← ht]; exact h) (by omega)).mono ?_
    rintro e w1 ⟨p, rfl, hT, hb⟩
    have T1 := Lib.hid hT; have B1 := Lib.hid hb
    clear hT hb ht hx
    go_wp2_with fail
    refine (tlT_c p t _ _ _ T1.out).mono ?_
    rintro e w1 ⟨q, rfl, hT, rfl⟩
    have T2 := Lib.hid hT
    clear hT
    go_wp2_with fail
    refine (checked_c q (tlT t) _ _ T2.out (by omega)).mono ?_
    rintro e w2 ⟨A', c', rfl, hw, hb⟩
    have W2 := Lib.hid (hw.wider B1.out.size (Nat.le_refl _)); have B2 := Lib.hid (below_chain B1.out B1.out.size hb)
    clear hw hb
    go_wp2_with fail
    go_ret2
    rw [HR.out]
    exact ⟨_, _, _, rfl, W2.out, by omega, B2.out⟩
theorem iTailOf_c (A : Option Addr) (n c : Nat) (xs : List Bool) (w : World) (h : RdB w A n xs) (hn : n ≤ 1000000000) :
    Calls Try.prog 26 #[.slice A n c] w fun e w' => ∃ A' n' c', e = .returned (.tuple #[.slice A' n' c', .int .i64 (tailR xs).2]) ∧ Wr w' w.heap.size w'.heap.size A' n' ((tailR xs).1.map Value.bool) ∧ n' ≤ 1000000 ∧ Below w.heap.size w w' := by
  go_enter Try.func26, Try.ntmps26
  go_wp2_with fail
  refine (changedTailOf_c _ _ _ xs _ h hn).mono ?_
  rintro e w1 ⟨A', n', c', rfl, hw, hn', hb⟩
  have W1 := Lib.hid hw; have B1 := Lib.hid hb
  clear hw hb
  go_wp2_with fail
  go_ret2
  exact ⟨_, _, _, rfl, W1.out, hn', B1.out⟩
end Go.Proofs.Ytplcpldbenjjgaa
