/-
  Parts of the proof, one behind the other: contracts of the functions that the law reaches, and plain laws.
-/
import Derived.Laws.EntriesVeiled
import Derived.Test.YtebjpmmgdkepjaaGreatDoorLot22
/-
  Contracts of chapter 12: replacing the variables of a lambda term, of the program.
-/
namespace Go.Proofs.YtebjpmmgdkepjaaGreatDoor
open Go.RowKit

/-- what the visiting closure holds -/
structure MvS (w : World) (s : Nat) (ad : Addr) (n c : Nat) (t : List (Int × Int)) (k : Nat) (FV : Value) (out : List (Int × Int)) : Prop where
  tc : Blk w s 25 #[.slice (some ad) n c]
  fc : Blk w (s + 1) 130 #[FV]
  oc : ∃ C cc, Blk w (s + 3) 25 #[.slice C out.length cc] ∧ Own w s 62 2 C out.length cc (out.flatMap enc2)
  kc : Blk w (s + 4) 3 #[.int .i64 k]
  vc : Blk w (s + 5) 172 #[.func (.func 143) #[] #[.pointer (some ⟨s, 0, none⟩), .pointer (some ⟨s + 4, 0, none⟩), .pointer (some ⟨s + 3, 0, none⟩), .pointer (some ⟨s + 1, 0, none⟩), .pointer (some ⟨s + 5, 0, none⟩)]]
  rd : Rd2 w (some ad) n t
  lt : ad.block < s
section
variable {w w' : World} {s n c k : Nat} {ad : Addr} {t out : List (Int × Int)} {FV : Value}
theorem MvS.keep (h : MvS w s ad n c t k FV out) (hb : Below w.heap.size w w') : MvS w' s ad n c t k FV out := by
  obtain ⟨C, cc, h1, h2⟩ := h.oc
  exact ⟨h.tc.keep hb, h.fc.keep hb, ⟨C, cc, h1.keep hb, h2.keep hb⟩, h.kc.keep hb, h.vc.keep hb, h.rd.below hb, h.lt⟩
theorem Rd2.atB {A : Option Addr} {xs : List (Int × Int)} (h : Rd2 w A n xs) (hk : ∀ a, A = some a → w'.heap[a.block]? = w.heap[a.block]?) (hs : w.heap.size ≤ w'.heap.size) : Rd2 w' A n xs := Rd.atBlk h (fun a ha _ => hk a ha) hs
theorem Own.setFar {B : Nat} {e : TypeId} {sz m cc : Nat} {A : Option Addr} {vs : List Value} (h : Own w B e sz A m cc vs) {p : Addr} {ty : TypeId} {cs : Array Value} (hp : Blk w p.block ty cs) (hne : ty ≠ e) (u : Value) : Own (w.setCell p u) B e sz A m cc vs :=
  h.move fun a ha => Below.heap_setCell w p u a.block (h.ne_ hp hne a ha)
theorem MvS.setK (h : MvS w s ad n c t k FV out) (k' : Nat) : MvS (w.setCell ⟨s + 4, 0, none⟩ (.int .i64 k')) s ad n c t k' FV out := by
  obtain ⟨C, cc, h1, h2⟩ := h.oc
  have hl := h.lt
  exact ⟨h.tc.far (by show s ≠ s + 4; omega) _, h.fc.far (by show s + 1 ≠ s + 4; omega) _, ⟨C, cc, h1.far (by show s + 3 ≠ s + 4; omega) _, h2.setFar (p := ⟨s + 4, 0, none⟩) h.kc (by decide) _⟩,
    h.kc.set_ 0 _, h.vc.far (by show s + 5 ≠ s + 4; omega) _, Rd2.atB h.rd (fun a ha => by injection ha with ha; subst ha; exact Below.heap_setCell w _ _ ad.block (by show ad.block ≠ s + 4; omega)) (by simp), h.lt⟩
theorem MvS.put {C A' : Option Addr} {cc cap : Nat} {xs : List (Int × Int)} (h : MvS w s ad n c t k FV out) (hC : Blk w (s + 3) 25 #[.slice C out.length cc]) (hO : Own w s 62 2 C out.length cc (out.flatMap enc2))
    (own : Own w' s 62 2 A' (out.length + xs.length) cap (out.flatMap enc2 ++ xs.flatMap enc2)) (hk : ∀ b, b < w.heap.size → (∀ ad', C = some ad' → ad'.block ≠ b) → w'.heap[b]? = w.heap[b]?) (hz : w.heap.size ≤ w'.heap.size) :
    MvS (w'.setCell ⟨s + 3, 0, none⟩ (.slice A' (out.length + xs.length) cap)) s ad n c t k FV (out ++ xs) := by
  have hl := h.lt
  have t1 : Blk w' s _ _ := (hk s h.tc.lt (fun a ha => hO.ne_ h.tc (by decide) a ha)).trans h.tc
  have f1 : Blk w' (s + 1) _ _ := (hk (s + 1) h.fc.lt (fun a ha => hO.ne_ h.fc (by decide) a ha)).trans h.fc
  have o1 : Blk w' (s + 3) _ _ := (hk (s + 3) hC.lt (fun a ha => hO.ne_ hC (by decide) a ha)).trans hC
  have k1 : Blk w' (s + 4) _ _ := (hk (s + 4) h.kc.lt (fun a ha => hO.ne_ h.kc (by decide) a ha)).trans h.kc
  have v1 : Blk w' (s + 5) _ _ := (hk (s + 5) h.vc.lt (fun a ha => hO.ne_ h.vc (by decide) a ha)).trans h.vc
  have r1 : Rd2 w' (some ad) n t := Rd2.atB h.rd (fun a ha => by injection ha with ha; subst ha; exact hk _ (by have := h.tc.lt; omega) (fun a' ha' => by have := (hO.block ha').1; omega)) hz
  refine ⟨t1.far (by show s ≠ s + 3; omega) _, f1.far (by show s + 1 ≠ s + 3; omega) _, ⟨A', cap, ?_, ?_⟩, k1.far (by show s + 4 ≠ s + 3; omega) _, v1.far (by show s + 5 ≠ s + 3; omega) _, Rd2.atB r1 (fun a ha => by injection ha with ha; subst ha; exact Below.heap_setCell w' _ _ ad.block (by show ad.block ≠ s + 3; omega)) (by simp), h.lt⟩
  · rw [List.length_append]; exact o1.set_ 0 _
  · rw [List.length_append, List.flatMap_append]; exact own.setFar (p := ⟨s + 3, 0, none⟩) o1 (by decide) _
end
theorem mapL_one {F : Int × Int → Nat → List (Int × Int)} {t : List (Int × Int)} {k d : Nat} {x : Int × Int} (hx : t[k]? = some x) (h0 : x.1 = 0) : mapL F ((t.drop k).take 1) [d] = F x d := by
  rw [drop_at hx, List.take_succ_cons, List.take_zero, mapL, if_pos h0, mapL, List.append_nil]
theorem mapL_abs {F : Int × Int → Nat → List (Int × Int)} {t : List (Int × Int)} {k d p : Nat} {x : Int × Int} (hx : t[k]? = some x) (h1 : x.1 = 1) : mapL F ((t.drop k).take (p + 1)) [d] = [x] ++ mapL F ((t.drop (k + 1)).take p) [d + 1] := by
  rw [drop_at hx, List.take_succ_cons, mapL, if_neg (by omega), pushL, if_pos h1]
theorem mapL_two {F : Int × Int → Nat → List (Int × Int)} {t : List (Int × Int)} {k d p q : Nat} {x : Int × Int} (hx : t[k]? = some x) (h2 : x.1 = 2) (hp : endP manyL (t.drop (k + 1)) 1 = some p) :
    mapL F ((t.drop k).take (p + q + 1)) [d] = [x] ++ (mapL F ((t.drop (k + 1)).take p) [d] ++ mapL F ((t.drop (k + 1 + p)).take q) [d]) := by
  have hle := (endP_le hp).1
  have e1 : (t.drop (k + 1)).take (p + q) = (t.drop (k + 1)).take p ++ (t.drop (k + 1 + p)).take q := by rw [List.take_add, List.drop_drop]
  have hl : ((t.drop (k + 1)).take p).length = p := by rw [List.length_take]; omega
  rw [drop_at hx, List.take_succ_cons, mapL, if_neg (by omega), pushL, if_neg (by omega), if_pos h2, e1]
  rw [show [d, d] = [d] ++ [d] from rfl, mapL_app (by rw [hl]; exact endP_take hp)]
theorem endP_var {t : List (Int × Int)} {k p : Nat} {x : Int × Int} (hx : t[k]? = some x) (h0 : x.1 = 0) (h : endP manyL (t.drop k) 1 = some p) : p = 1 := by
  rw [drop_at hx, show (1 : Nat) = 0 + 1 from rfl, endP_cons, h0, show 0 + manyL 0 = 0 from rfl, endP_zero] at h
  simp at h; omega
theorem endP_abs {t : List (Int × Int)} {k p : Nat} {x : Int × Int} (hx : t[k]? = some x) (h1 : x.1 = 1) (h : endP manyL (t.drop k) 1 = some p) : ∃ q, p = q + 1 ∧ endP manyL (t.drop (k + 1)) 1 = some q := by
  rw [drop_at hx, show (1 : Nat) = 0 + 1 from rfl, endP_cons, h1, show 0 + manyL 1 = 1 from rfl] at h
  obtain ⟨q, hq, rfl⟩ := Option.map_eq_some_iff.1 h
  exact ⟨q, rfl, hq⟩
theorem endP_two {t : List (Int × Int)} {k p : Nat} {x : Int × Int} (hx : t[k]? = some x) (h2 : x.1 = 2) (h : endP manyL (t.drop k) 1 = some p) : ∃ q r, p = q + r + 1 ∧ endP manyL (t.drop (k + 1)) 1 = some q ∧ endP manyL (t.drop (k + 1 + q)) 1 = some r := by
  rw [drop_at hx, show (1 : Nat) = 0 + 1 from rfl, endP_cons, h2, show 0 + manyL 2 = 1 + 1 from rfl] at h
  obtain ⟨q, hq, rfl⟩ := Option.map_eq_some_iff.1 h
  obtain ⟨a, b, h3, h4, rfl⟩ := endP_add hq
  rw [List.drop_drop] at h4
  exact ⟨a, b, rfl, h3, h4⟩
set_option maxHeartbeats 4000000 in
set_option maxRecDepth 100000 in
theorem visitS_c (V V2 : Value) (F : Int × Int → Nat → List (Int × Int)) (M : Nat) (s : Nat) (w0 : World) (ad : Addr) (n c : Nat) (t : List (Int × Int)) (hn : n ≤ 1000) (hM : 1 ≤ M ∧ M ≤ 1000) (hok : ∀ x ∈ t, okL x = true)
    (HC : ∀ (x : Int × Int) (d : Nat) (wz : World), x.1 = 0 → okL x = true → d ≤ 1000 → Below s w0 wz → Calls Tryz.prog 144 #[.agg #[.int .i64 x.1, .int .i64 x.2], .int .i64 d, V, V2] wz fun e w' => ∃ A l c', e = .returned (.slice A l c') ∧ Rd2 w' A l (F x d) ∧ l ≤ M ∧ Below wz.heap.size wz w') :
    ∀ (N p k d : Nat) (out : List (Int × Int)) (w : World), p ≤ N → MvS w s ad n c t k (.func (.func 144) #[] #[V, V2]) out → endP manyL (t.drop k) 1 = some p → d + p ≤ 1000 → out.length + p * M ≤ 1000000 → Below s w0 w → s ≤ w.heap.size →
      Calls Tryz.prog 143 #[.int .i64 d, .pointer (some ⟨s, 0, none⟩), .pointer (some ⟨s + 4, 0, none⟩), .pointer (some ⟨s + 3, 0, none⟩), .pointer (some ⟨s + 1, 0, none⟩), .pointer (some ⟨s + 5, 0, none⟩)] w fun e w' =>
        e = .returned (.tuple #[]) ∧ MvS w' s ad n c t (k + p) (.func (.func 144) #[] #[V, V2]) (out ++ mapL F ((t.drop k).take p) [d]) ∧ Below s w0 w' ∧ w.heap.size ≤ w'.heap.size ∧ (mapL F ((t.drop k).take p) [d]).length ≤ p * M := by
  intro N
  induction N with
  | zero => intro p k d out w hp h hE; have := endP_pos hE; omega
  | succ N IH =>
    intro p k d out w hpN h hE hdp hol hb hs
    have hp1 := endP_pos hE
    have hkn : k < n := by
      have h1 := (endP_le hE).1
      have h2 := h.rd.len
      rw [List.length_drop] at h1; omega
    obtain ⟨_, x, e, hab, hx, hc0, hc1⟩ := h.rd.at_ hkn
    injection e with e; subst e
    have hox := HC x d
    have hxo := hok x (List.mem_of_getElem? hx)
    have hcs := okL_cases hxo
    have HCX := Lib.hid HC; have HOK := Lib.hid hok; have HIH := Lib.hid IH; have HE := Lib.hid hE; have HX := Lib.hid hx; have HXO := Lib.hid hxo
    obtain ⟨x1, x2⟩ := x
    simp only at hc0 hc1 hcs
    have z1 := h.tc.cell 0; have z2 := h.kc.cell 0; have fz := h.kc.frozen 0
    simp at z1 z2
    obtain ⟨w5, hw5⟩ : ∃ w5, w.alloc (.cells #[.int .i64 0, .int .i64 0] 62) = w5 := ⟨_, rfl⟩
    have K5 : Blk w5 w.heap.size 62 #[.int .i64 0, .int .i64 0] := by rw [← hw5]; exact Blk.new _ _ _
    have g0 : w5.cell? ⟨w.heap.size, 0, none⟩ = some (.int .i64 0) := K5.cell 0
    have g1 : w5.cell? ⟨w.heap.size, 1, none⟩ = some (.int .i64 0) := K5.cell 1
    have e0 := K5.frozen 0; have e1 := K5.frozen 1
    have hc05 := keepc (show Below w.heap.size w w5 by rw [← hw5]; exact below_size.alloc (Nat.le_refl _) _) hc0
    obtain ⟨w6, hw6⟩ : ∃ w6, (w5.setCell ⟨w.heap.size, 0, none⟩ (.int .i64 x1)).setCell ⟨w.heap.size, 1, none⟩ (.int .i64 x2) = w6 := ⟨_, rfl⟩
    have E6 := Lib.hid (show Below w.heap.size w w6 by rw [← hw6, ← hw5]; exact ((below_size.alloc (Nat.le_refl _) _).setCell (Nat.le_refl _) _).setCell (Nat.le_refl _) _)
    have K6 := Lib.hid (show Blk w6 w.heap.size 62 #[.int .i64 x1, .int .i64 x2] by rw [← hw6]; exact (K5.set_ 0 _).set_ 1 _)
    clear K5 hc05
    have H6 := Lib.hid (h.keep E6.out)
    have y2 := H6.out.kc.cell 0; have fy := H6.out.kc.frozen 0
    simp at y2
    have hklt := h.kc.lt
    obtain ⟨w7, hw7⟩ : ∃ w7, w6.setCell ⟨s + 4, 0, none⟩ (.int .i64 ((k : Int) + 1)) = w7 := ⟨_, rfl⟩
    have H7 := Lib.hid (show MvS w7 s ad n c t (k + 1) _ out by rw [← hw7]; exact H6.out.setK (k + 1))
    have K7 := Lib.hid (show Blk w7 w.heap.size 62 #[.int .i64 x1, .int .i64 x2] by rw [← hw7]; exact K6.out.far (by show w.heap.size ≠ s + 4; omega) _)
    have E7 := Lib.hid (show Below s w w7 by rw [← hw7]; exact (E6.out.mono hs).setCell (by show s ≤ s + 4; omega) _)
    have hz7 := E7.out.size
    have q0 : w7.cell? ⟨w.heap.size, 0, none⟩ = some (.int .i64 x1) := K7.out.cell 0
    have q1 : w7.cell? ⟨w.heap.size, 1, none⟩ = some (.int .i64 x2) := K7.out.cell 1
    obtain ⟨C, cc, hC, hO⟩ := H7.out.oc
    have r1 := hC.cell 0; have r2 := H7.out.fc.cell 0; have r3 := H7.out.vc.cell 0; have fr := hC.frozen 0
    simp at r1 r2 r3
    have HC7 := Lib.hid hC; have HO7 := Lib.hid hO
    have B7 := Lib.hid (hb.trans E7.out)
    clear h hE hok HC IH hx hxo hox hC hO hb
    have v1 : IntKind.i64.wrap ((k : Int) + 1) = (k : Int) + 1 := IntWalk.i64_in _ (by omega)
    rcases hcs with ⟨rfl, hcs⟩ | ⟨rfl, rfl⟩ | ⟨rfl, rfl⟩
    · obtain rfl := endP_var HX.out rfl HE.out
      have hF := mapL_one (F := F) (d := d) HX.out rfl
      rw [hF]
      have z0 := Ext.cell r1; have zz1 := Ext.cell r2; have zz2 := Ext.cell q0; have zz3 := Ext.cell q1
      clear hF
      go_enter Tryz.func143, Tryz.ntmps143
      go_wp2_with fail
      refine Mix.wp_region_mix [3, 3, 3, 0, 1, 2, 2] (fun w' => ∃ x : Ext w7, w' = x.w) (by kernel_rfl) (by kernel_rfl) (InExt.drew _) ?_
      repeat (first | (refine Mix.wpMix_read (by rfl) ?_; go_big_quiet_step (fail); refine wpQuiet_nil ?_) | (refine Mix.wpMix_pure (by rfl) ?_; go_big_quiet_step (fail); refine wpQuiet_nil ?_))
      refine Mix.wpMix_chg (by rfl) (fun K hK => ?_)
      go_wp2_with fail
      refine (HCX.out (0, x2) d w7.drew rfl HXO.out (by omega) (below_drew B7.out)).mono ?_
      rintro e w8 ⟨A8, l8, c8, rfl, hr8, hl8, hb8⟩
      have hlen := hr8.len
      subst hlen
      have E8 := Lib.hid (below_of_drew hb8)
      have R8 := Lib.hid hr8
      have hz8 := E8.out.size
      have H8 := Lib.hid (H7.out.keep E8.out); have C8 := Lib.hid (HC7.out.keep E8.out); have O8 := Lib.hid (HO7.out.keep E8.out)
      clear hr8 hb8
      go_wp2_with fail
      refine hK _ _ ⟨⟨_, E8.out⟩, rfl⟩ ?_
      clear hK K
      refine Mix.wpMix_tail (by rfl) (fun K hK => ?_)
      refine wp_appLam (by rfl) _ _ (by rfl) s C out.length cc (out.flatMap enc2) (by rfl) (by exact O8.out) A8 _ c8 (F (0, x2) d) (by rfl) (by exact R8.out) (by omega) (by omega) ?_
      intro A9 c9 w9 own9 hb9 hk9 hg9 hz9
      have C9 : Blk w9 (s + 3) 25 #[.slice C out.length cc] := (hk9 (s + 3) C8.out.lt (fun a ha => O8.out.ne_ C8.out (by decide) a ha)).trans C8.out
      have p9 := C9.cell 0; have f9 := C9.frozen 0
      simp at p9
      have H10 := Lib.hid (MvS.put H8.out C8.out O8.out own9 hk9 hz9)
      have B10 := Lib.hid (((B7.out.trans (E8.out.mono (by omega))).trans hb9).setCell (p := ⟨s + 3, 0, none⟩) (by show s ≤ s + 3; omega) (.slice A9 (out.length + (F (0, x2) d).length) c9))
      clear own9 hb9 hk9 hg9
      go_wp2_with fail
      refine hK _ _ ?_
      clear hK K
      refine Mix.wpMix_tail (by rfl) (fun K hK => ?_)
      go_wp2_with fail
      refine hK _ _ ?_
      clear hK K
      (refine Mix.wpMix_nil ?_; try simp only [Exit.then])
      go_end0
      exact ⟨rfl, H10.out, B10.out, by rw [World.size_setCell]; omega, by omega⟩
    · obtain ⟨p, rfl, hE'⟩ := endP_abs HX.out rfl HE.out
      have hF := mapL_abs (F := F) (d := d) (p := p) HX.out rfl
      rw [hF]
      have HE' := Lib.hid hE'
      have hz7' : s ≤ w7.heap.size := by omega
      have vd : IntKind.i64.wrap ((d : Int) + 1) = ((d + 1 : Nat) : Int) := by rw [IntWalk.i64_in _ (by omega)]; omega
      have hpM : (p + 1) * M = p * M + M := Nat.succ_mul p M
      clear hF hE'
      go_enter Tryz.func143, Tryz.ntmps143
      go_wp2_with (at_builtin; refine wp_appLam (by rfl) _ _ (by rfl) s C out.length cc (out.flatMap enc2) (by rfl) (by exact HO7.out.alloc _) (some ⟨w7.heap.size, 0, none⟩) 1 1 [((1 : Int), (0 : Int))] (by rfl) (by exact rd_new2 [((1 : Int), (0 : Int))] _ rfl rfl) (by omega) (by rw [World.size_alloc]; omega) ?_; intro A9 c9 w9 own9 hb9 hk9 hg9 hz9; have C9 : Blk w9 (s + 3) 25 #[.slice C out.length cc] := (hk9 (s + 3) (by have := HC7.out.lt; rw [World.size_alloc]; omega) (fun a ha => HO7.out.ne_ HC7.out (by decide) a ha)).trans (HC7.out.alloc _); have p9 := C9.cell 0; have f9 := C9.frozen 0; simp at p9; have H10' := MvS.put (H7.out.keep (below_size.alloc (Nat.le_refl _) (.cells #[.int .i64 1, .int .i64 0] 62))) (HC7.out.alloc _) (HO7.out.alloc _) own9 hk9 hz9; have B10' := ((B7.out.alloc hz7' (.cells #[.int .i64 1, .int .i64 0] 62)).trans hb9).setCell (p := ⟨s + 3, 0, none⟩) (by show s ≤ s + 3; omega) (.slice A9 (out.length + 1) c9); have hz9' : w7.heap.size ≤ w9.heap.size := Nat.le_trans (by rw [World.size_alloc]; omega) hz9; obtain ⟨w10, hw10⟩ : ∃ w10, w9.setCell ⟨s + 3, 0, none⟩ (.slice A9 (out.length + 1) c9) = w10 := ⟨_, rfl⟩; have hz10 : w10.heap.size = w9.heap.size := (by rw [← hw10, World.size_setCell]); have H10 := Lib.hid (show MvS w10 s ad n c t (k + 1) _ (out ++ [((1 : Int), (0 : Int))]) by rw [← hw10]; exact H10'); have B10 := Lib.hid (show Below s w0 w10 by rw [← hw10]; exact B10'); have s3 := H10.out.vc.cell 0; simp at s3; clear H10' B10' C9 own9 hb9 hk9 hg9)
      refine (HIH.out p (k + 1) (d + 1) (out ++ [((1 : Int), (0 : Int))]) w10 (by omega) H10.out HE'.out (by omega) (by rw [List.length_append]; simp; omega) B10.out (by omega)).mono ?_
      rintro e w11 ⟨rfl, h11, b11, z11, l11⟩
      have H11 := Lib.hid h11; have B11 := Lib.hid b11
      clear h11 b11 s3
      go_wp2_with fail
      go_end0
      refine ⟨rfl, ?_, B11.out, by omega, by omega⟩
      have h12 := H11.out
      rwa [List.append_assoc, show k + 1 + p = k + (p + 1) by omega] at h12
    · obtain ⟨p, p2, rfl, hE', hE2⟩ := endP_two HX.out rfl HE.out
      have hF := mapL_two (F := F) (d := d) (p := p) (q := p2) HX.out rfl hE'
      rw [hF]
      have HE' := Lib.hid hE'; have HE2 := Lib.hid hE2
      have hz7' : s ≤ w7.heap.size := by omega
      have hpM : (p + p2 + 1) * M = p * M + p2 * M + M := by rw [Nat.succ_mul, Nat.add_mul]
      have hp0 := endP_pos hE2
      clear hF hE' hE2
      go_enter Tryz.func143, Tryz.ntmps143
      go_wp2_with (at_builtin; refine wp_appLam (by rfl) _ _ (by rfl) s C out.length cc (out.flatMap enc2) (by rfl) (by exact HO7.out.alloc _) (some ⟨w7.heap.size, 0, none⟩) 1 1 [((2 : Int), (0 : Int))] (by rfl) (by exact rd_new2 [((2 : Int), (0 : Int))] _ rfl rfl) (by omega) (by rw [World.size_alloc]; omega) ?_; intro A9 c9 w9 own9 hb9 hk9 hg9 hz9; have C9 : Blk w9 (s + 3) 25 #[.slice C out.length cc] := (hk9 (s + 3) (by have := HC7.out.lt; rw [World.size_alloc]; omega) (fun a ha => HO7.out.ne_ HC7.out (by decide) a ha)).trans (HC7.out.alloc _); have p9 := C9.cell 0; have f9 := C9.frozen 0; simp at p9; have H10' := MvS.put (H7.out.keep (below_size.alloc (Nat.le_refl _) (.cells #[.int .i64 2, .int .i64 0] 62))) (HC7.out.alloc _) (HO7.out.alloc _) own9 hk9 hz9; have B10' := ((B7.out.alloc hz7' (.cells #[.int .i64 2, .int .i64 0] 62)).trans hb9).setCell (p := ⟨s + 3, 0, none⟩) (by show s ≤ s + 3; omega) (.slice A9 (out.length + 1) c9); have hz9' : w7.heap.size ≤ w9.heap.size := Nat.le_trans (by rw [World.size_alloc]; omega) hz9; obtain ⟨w10, hw10⟩ : ∃ w10, w9.setCell ⟨s + 3, 0, none⟩ (.slice A9 (out.length + 1) c9) = w10 := ⟨_, rfl⟩; have hz10 : w10.heap.size = w9.heap.size := (by rw [← hw10, World.size_setCell]); have H10 := Lib.hid (show MvS w10 s ad n c t (k + 1) _ (out ++ [((2 : Int), (0 : Int))]) by rw [← hw10]; exact H10'); have B10 := Lib.hid (show Below s w0 w10 by rw [← hw10]; exact B10'); have s3 := H10.out.vc.cell 0; simp at s3; clear H10' B10' C9 own9 hb9 hk9 hg9)
      refine (HIH.out p (k + 1) d (out ++ [((2 : Int), (0 : Int))]) w10 (by omega) H10.out HE'.out (by omega) (by rw [List.length_append]; simp; omega) B10.out (by omega)).mono ?_
      rintro e w11 ⟨rfl, h11, b11, z11, l11⟩
      have H11 := Lib.hid h11; have B11 := Lib.hid b11
      have s4 := h11.vc.cell 0
      simp at s4
      clear h11 b11 s3
      go_wp2_with fail
      refine (HIH.out p2 (k + 1 + p) d _ w11 (by omega) H11.out HE2.out (by omega) (by rw [List.length_append, List.length_append]; simp; omega) B11.out (by omega)).mono ?_
      rintro e w12 ⟨rfl, h12, b12, z12, l12⟩
      have H12 := Lib.hid h12; have B12 := Lib.hid b12
      clear h12 b12 s4
      go_wp2_with fail
      go_end0
      refine ⟨rfl, ?_, B12.out, by omega, by rw [hpM]; simp only [List.length_append]; omega⟩
      have h13 := H12.out
      rwa [List.append_assoc, List.append_assoc, show k + 1 + p + p2 = k + (p + p2 + 1) by omega] at h13
set_option maxHeartbeats 4000000 in
set_option maxRecDepth 100000 in
theorem visitR_c (V : Value) (F : Int × Int → Nat → List (Int × Int)) (M : Nat) (s : Nat) (w0 : World) (ad : Addr) (n c : Nat) (t : List (Int × Int)) (hn : n ≤ 1000) (hM : 1 ≤ M ∧ M ≤ 1000) (hok : ∀ x ∈ t, okL x = true)
    (HC : ∀ (x : Int × Int) (d : Nat) (wz : World), x.1 = 0 → okL x = true → d ≤ 1000 → Below s w0 wz → Calls Tryz.prog 105 #[.agg #[.int .i64 x.1, .int .i64 x.2], .int .i64 d, V] wz fun e w' => ∃ A l c', e = .returned (.slice A l c') ∧ Rd2 w' A l (F x d) ∧ l ≤ M ∧ Below wz.heap.size wz w') :
    ∀ (N p k d : Nat) (out : List (Int × Int)) (w : World), p ≤ N → MvS w s ad n c t k (.func (.func 105) #[] #[V]) out → endP manyL (t.drop k) 1 = some p → d + p ≤ 1000 → out.length + p * M ≤ 1000000 → Below s w0 w → s ≤ w.heap.size →
      Calls Tryz.prog 143 #[.int .i64 d, .pointer (some ⟨s, 0, none⟩), .pointer (some ⟨s + 4, 0, none⟩), .pointer (some ⟨s + 3, 0, none⟩), .pointer (some ⟨s + 1, 0, none⟩), .pointer (some ⟨s + 5, 0, none⟩)] w fun e w' =>
        e = .returned (.tuple #[]) ∧ MvS w' s ad n c t (k + p) (.func (.func 105) #[] #[V]) (out ++ mapL F ((t.drop k).take p) [d]) ∧ Below s w0 w' ∧ w.heap.size ≤ w'.heap.size ∧ (mapL F ((t.drop k).take p) [d]).length ≤ p * M := by
  intro N
  induction N with
  | zero => intro p k d out w hp h hE; have := endP_pos hE; omega
  | succ N IH =>
    intro p k d out w hpN h hE hdp hol hb hs
    have hp1 := endP_pos hE
    have hkn : k < n := by
      have h1 := (endP_le hE).1
      have h2 := h.rd.len
      rw [List.length_drop] at h1; omega
    obtain ⟨_, x, e, hab, hx, hc0, hc1⟩ := h.rd.at_ hkn
    injection e with e; subst e
    have hox := HC x d
    have hxo := hok x (List.mem_of_getElem? hx)
    have hcs := okL_cases hxo
    have HCX := Lib.hid HC; have HOK := Lib.hid hok; have HIH := Lib.hid IH; have HE := Lib.hid hE; have HX := Lib.hid hx; have HXO := Lib.hid hxo
    obtain ⟨x1, x2⟩ := x
    simp only at hc0 hc1 hcs
    have z1 := h.tc.cell 0; have z2 := h.kc.cell 0; have fz := h.kc.frozen 0
    simp at z1 z2
    obtain ⟨w5, hw5⟩ : ∃ w5, w.alloc (.cells #[.int .i64 0, .int .i64 0] 62) = w5 := ⟨_, rfl⟩
    have K5 : Blk w5 w.heap.size 62 #[.int .i64 0, .int .i64 0] := by rw [← hw5]; exact Blk.new _ _ _
    have g0 : w5.cell? ⟨w.heap.size, 0, none⟩ = some (.int .i64 0) := K5.cell 0
    have g1 : w5.cell? ⟨w.heap.size, 1, none⟩ = some (.int .i64 0) := K5.cell 1
    have e0 := K5.frozen 0; have e1 := K5.frozen 1
    have hc05 := keepc (show Below w.heap.size w w5 by rw [← hw5]; exact below_size.alloc (Nat.le_refl _) _) hc0
    obtain ⟨w6, hw6⟩ : ∃ w6, (w5.setCell ⟨w.heap.size, 0, none⟩ (.int .i64 x1)).setCell ⟨w.heap.size, 1, none⟩ (.int .i64 x2) = w6 := ⟨_, rfl⟩
    have E6 := Lib.hid (show Below w.heap.size w w6 by rw [← hw6, ← hw5]; exact ((below_size.alloc (Nat.le_refl _) _).setCell (Nat.le_refl _) _).setCell (Nat.le_refl _) _)
    have K6 := Lib.hid (show Blk w6 w.heap.size 62 #[.int .i64 x1, .int .i64 x2] by rw [← hw6]; exact (K5.set_ 0 _).set_ 1 _)
    clear K5 hc05
    have H6 := Lib.hid (h.keep E6.out)
    have y2 := H6.out.kc.cell 0; have fy := H6.out.kc.frozen 0
    simp at y2
    have hklt := h.kc.lt
    obtain ⟨w7, hw7⟩ : ∃ w7, w6.setCell ⟨s + 4, 0, none⟩ (.int .i64 ((k : Int) + 1)) = w7 := ⟨_, rfl⟩
    have H7 := Lib.hid (show MvS w7 s ad n c t (k + 1) _ out by rw [← hw7]; exact H6.out.setK (k + 1))
    have K7 := Lib.hid (show Blk w7 w.heap.size 62 #[.int .i64 x1, .int .i64 x2] by rw [← hw7]; exact K6.out.far (by show w.heap.size ≠ s + 4; omega) _)
    have E7 := Lib.hid (show Below s w w7 by rw [← hw7]; exact (E6.out.mono hs).setCell (by show s ≤ s + 4; omega) _)
    have hz7 := E7.out.size
    have q0 : w7.cell? ⟨w.heap.size, 0, none⟩ = some (.int .i64 x1) := K7.out.cell 0
    have q1 : w7.cell? ⟨w.heap.size, 1, none⟩ = some (.int .i64 x2) := K7.out.cell 1
    obtain ⟨C, cc, hC, hO⟩ := H7.out.oc
    have r1 := hC.cell 0; have r2 := H7.out.fc.cell 0; have r3 := H7.out.vc.cell 0; have fr := hC.frozen 0
    simp at r1 r2 r3
    have HC7 := Lib.hid hC; have HO7 := Lib.hid hO
    have B7 := Lib.hid (hb.trans E7.out)
    clear h hE hok HC IH hx hxo hox hC hO hb
    have v1 : IntKind.i64.wrap ((k : Int) + 1) = (k : Int) + 1 := IntWalk.i64_in _ (by omega)
    rcases hcs with ⟨rfl, hcs⟩ | ⟨rfl, rfl⟩ | ⟨rfl, rfl⟩
    · obtain rfl := endP_var HX.out rfl HE.out
      have hF := mapL_one (F := F) (d := d) HX.out rfl
      rw [hF]
      have z0 := Ext.cell r1; have zz1 := Ext.cell r2; have zz2 := Ext.cell q0; have zz3 := Ext.cell q1
      clear hF
      go_enter Tryz.func143, Tryz.ntmps143
      go_wp2_with fail
      refine Mix.wp_region_mix [3, 3, 3, 0, 1, 2, 2] (fun w' => ∃ x : Ext w7, w' = x.w) (by kernel_rfl) (by kernel_rfl) (InExt.drew _) ?_
      repeat (first | (refine Mix.wpMix_read (by rfl) ?_; go_big_quiet_step (fail); refine wpQuiet_nil ?_) | (refine Mix.wpMix_pure (by rfl) ?_; go_big_quiet_step (fail); refine wpQuiet_nil ?_))
      refine Mix.wpMix_chg (by rfl) (fun K hK => ?_)
      go_wp2_with fail
      refine (HCX.out (0, x2) d w7.drew rfl HXO.out (by omega) (below_drew B7.out)).mono ?_
      rintro e w8 ⟨A8, l8, c8, rfl, hr8, hl8, hb8⟩
      have hlen := hr8.len
      subst hlen
      have E8 := Lib.hid (below_of_drew hb8)
      have R8 := Lib.hid hr8
      have hz8 := E8.out.size
      have H8 := Lib.hid (H7.out.keep E8.out); have C8 := Lib.hid (HC7.out.keep E8.out); have O8 := Lib.hid (HO7.out.keep E8.out)
      clear hr8 hb8
      go_wp2_with fail
      refine hK _ _ ⟨⟨_, E8.out⟩, rfl⟩ ?_
      clear hK K
      refine Mix.wpMix_tail (by rfl) (fun K hK => ?_)
      refine wp_appLam (by rfl) _ _ (by rfl) s C out.length cc (out.flatMap enc2) (by rfl) (by exact O8.out) A8 _ c8 (F (0, x2) d) (by rfl) (by exact R8.out) (by omega) (by omega) ?_
      intro A9 c9 w9 own9 hb9 hk9 hg9 hz9
      have C9 : Blk w9 (s + 3) 25 #[.slice C out.length cc] := (hk9 (s + 3) C8.out.lt (fun a ha => O8.out.ne_ C8.out (by decide) a ha)).trans C8.out
      have p9 := C9.cell 0; have f9 := C9.frozen 0
      simp at p9
      have H10 := Lib.hid (MvS.put H8.out C8.out O8.out own9 hk9 hz9)
      have B10 := Lib.hid (((B7.out.trans (E8.out.mono (by omega))).trans hb9).setCell (p := ⟨s + 3, 0, none⟩) (by show s ≤ s + 3; omega) (.slice A9 (out.length + (F (0, x2) d).length) c9))
      clear own9 hb9 hk9 hg9
      go_wp2_with fail
      refine hK _ _ ?_
      clear hK K
      refine Mix.wpMix_tail (by rfl) (fun K hK => ?_)
      go_wp2_with fail
      refine hK _ _ ?_
      clear hK K
      (refine Mix.wpMix_nil ?_; try simp only [Exit.then])
      go_end0
      exact ⟨rfl, H10.out, B10.out, by rw [World.size_setCell]; omega, by omega⟩
    · obtain ⟨p, rfl, hE'⟩ := endP_abs HX.out rfl HE.out
      have hF := mapL_abs (F := F) (d := d) (p := p) HX.out rfl
      rw [hF]
      have HE' := Lib.hid hE'
      have hz7' : s ≤ w7.heap.size := by omega
      have vd : IntKind.i64.wrap ((d : Int) + 1) = ((d + 1 : Nat) : Int) := by rw [IntWalk.i64_in _ (by omega)]; omega
      have hpM : (p + 1) * M = p * M + M := Nat.succ_mul p M
      clear hF hE'
      go_enter Tryz.func143, Tryz.ntmps143
      go_wp2_with (at_builtin; refine wp_appLam (by rfl) _ _ (by rfl) s C out.length cc (out.flatMap enc2) (by rfl) (by exact HO7.out.alloc _) (some ⟨w7.heap.size, 0, none⟩) 1 1 [((1 : Int), (0 : Int))] (by rfl) (by exact rd_new2 [((1 : Int), (0 : Int))] _ rfl rfl) (by omega) (by rw [World.size_alloc]; omega) ?_; intro A9 c9 w9 own9 hb9 hk9 hg9 hz9; have C9 : Blk w9 (s + 3) 25 #[.slice C out.length cc] := (hk9 (s + 3) (by have := HC7.out.lt; rw [World.size_alloc]; omega) (fun a ha => HO7.out.ne_ HC7.out (by decide) a ha)).trans (HC7.out.alloc _); have p9 := C9.cell 0; have f9 := C9.frozen 0; simp at p9; have H10' := MvS.put (H7.out.keep (below_size.alloc (Nat.le_refl _) (.cells #[.int .i64 1, .int .i64 0] 62))) (HC7.out.alloc _) (HO7.out.alloc _) own9 hk9 hz9; have B10' := ((B7.out.alloc hz7' (.cells #[.int .i64 1, .int .i64 0] 62)).trans hb9).setCell (p := ⟨s + 3, 0, none⟩) (by show s ≤ s + 3; omega) (.slice A9 (out.length + 1) c9); have hz9' : w7.heap.size ≤ w9.heap.size := Nat.le_trans (by rw [World.size_alloc]; omega) hz9; obtain ⟨w10, hw10⟩ : ∃ w10, w9.setCell ⟨s + 3, 0, none⟩ (.slice A9 (out.length + 1) c9) = w10 := ⟨_, rfl⟩; have hz10 : w10.heap.size = w9.heap.size := (by rw [← hw10, World.size_setCell]); have H10 := Lib.hid (show MvS w10 s ad n c t (k + 1) _ (out ++ [((1 : Int), (0 : Int))]) by rw [← hw10]; exact H10'); have B10 := Lib.hid (show Below s w0 w10 by rw [← hw10]; exact B10'); have s3 := H10.out.vc.cell 0; simp at s3; clear H10' B10' C9 own9 hb9 hk9 hg9)
      refine (HIH.out p (k + 1) (d + 1) (out ++ [((1 : Int), (0 : Int))]) w10 (by omega) H10.out HE'.out (by omega) (by rw [List.length_append]; simp; omega) B10.out (by omega)).mono ?_
      rintro e w11 ⟨rfl, h11, b11, z11, l11⟩
      have H11 := Lib.hid h11; have B11 := Lib.hid b11
      clear h11 b11 s3
      go_wp2_with fail
      go_end0
      refine ⟨rfl, ?_, B11.out, by omega, by omega⟩
      have h12 := H11.out
      rwa [List.append_assoc, show k + 1 + p = k + (p + 1) by omega] at h12
    · obtain ⟨p, p2, rfl, hE', hE2⟩ := endP_two HX.out rfl HE.out
      have hF := mapL_two (F := F) (d := d) (p := p) (q := p2) HX.out rfl hE'
      rw [hF]
      have HE' := Lib.hid hE'; have HE2 := Lib.hid hE2
      have hz7' : s ≤ w7.heap.size := by omega
      have hpM : (p + p2 + 1) * M = p * M + p2 * M + M := by rw [Nat.succ_mul, Nat.add_mul]
      have hp0 := endP_pos hE2
      clear hF hE' hE2
      go_enter Tryz.func143, Tryz.ntmps143
      go_wp2_with (at_builtin; refine wp_appLam (by rfl) _ _ (by rfl) s C out.length cc (out.flatMap enc2) (by rfl) (by exact HO7.out.alloc _) (some ⟨w7.heap.size, 0, none⟩) 1 1 [((2 : Int), (0 : Int))] (by rfl) (by exact rd_new2 [((2 : Int), (0 : Int))] _ rfl rfl) (by omega) (by rw [World.size_alloc]; omega) ?_; intro A9 c9 w9 own9 hb9 hk9 hg9 hz9; have C9 : Blk w9 (s + 3) 25 #[.slice C out.length cc] := (hk9 (s + 3) (by have := HC7.out.lt; rw [World.size_alloc]; omega) (fun a ha => HO7.out.ne_ HC7.out (by decide) a ha)).trans (HC7.out.alloc _); have p9 := C9.cell 0; have f9 := C9.frozen 0; simp at p9; have H10' := MvS.put (H7.out.keep (below_size.alloc (Nat.le_refl _) (.cells #[.int .i64 2, .int .i64 0] 62))) (HC7.out.alloc _) (HO7.out.alloc _) own9 hk9 hz9; have B10' := ((B7.out.alloc hz7' (.cells #[.int .i64 2, .int .i64 0] 62)).trans hb9).setCell (p := ⟨s + 3, 0, none⟩) (by show s ≤ s + 3; omega) (.slice A9 (out.length + 1) c9); have hz9' : w7.heap.size ≤ w9.heap.size := Nat.le_trans (by rw [World.size_alloc]; omega) hz9; obtain ⟨w10, hw10⟩ : ∃ w10, w9.setCell ⟨s + 3, 0, none⟩ (.slice A9 (out.length + 1) c9) = w10 := ⟨_, rfl⟩; have hz10 : w10.heap.size = w9.heap.size := (by rw [← hw10, World.size_setCell]); have H10 := Lib.hid (show MvS w10 s ad n c t (k + 1) _ (out ++ [((2 : Int), (0 : Int))]) by rw [← hw10]; exact H10'); have B10 := Lib.hid (show Below s w0 w10 by rw [← hw10]; exact B10'); have s3 := H10.out.vc.cell 0; simp at s3; clear H10' B10' C9 own9 hb9 hk9 hg9)
      refine (HIH.out p (k + 1) d (out ++ [((2 : Int), (0 : Int))]) w10 (by omega) H10.out HE'.out (by omega) (by rw [List.length_append]; simp; omega) B10.out (by omega)).mono ?_
      rintro e w11 ⟨rfl, h11, b11, z11, l11⟩
      have H11 := Lib.hid h11; have B11 := Lib.hid b11
      have s4 := h11.vc.cell 0
      simp at s4
      clear h11 b11 s3
      go_wp2_with fail
      refine (HIH.out p2 (k + 1 + p) d _ w11 (by omega) H11.out HE2.out (by omega) (by rw [List.length_append, List.length_append]; simp; omega) B11.out (by omega)).mono ?_
      rintro e w12 ⟨rfl, h12, b12, z12, l12⟩
      have H12 := Lib.hid h12; have B12 := Lib.hid b12
      clear h12 b12 s4
      go_wp2_with fail
      go_end0
      refine ⟨rfl, ?_, B12.out, by omega, by rw [hpM]; simp only [List.length_append]; omega⟩
      have h13 := H12.out
      rwa [List.append_assoc, List.append_assoc, show k + 1 + p + p2 = k + (p + p2 + 1) by omega] at h13
end Go.Proofs.YtebjpmmgdkepjaaGreatDoor
/-
  Contracts of chapter 12: replacing the variables of a lambda term, of the program.
-/
namespace Go.Proofs.YtebjpmmgdkepjaaGreatDoor
open Go.RowKit

/-- the worlds that the call of mapVariables makes -/
def mvW (w : World) (ad : Addr) (n c : Nat) (FV : Value) : World :=
  (((((w.alloc (.cells #[.slice (some ad) n c] 25)).alloc (.cells #[FV] 130)).alloc (.cells #[] 62)).alloc (.cells #[.slice (some ⟨w.heap.size + 1 + 1, 0, none⟩) 0 0] 25)).alloc (.cells #[.int .i64 0] 3)).alloc
    (.cells #[.func (.func 143) #[] #[.pointer (some ⟨w.heap.size, 0, none⟩), .pointer (some ⟨w.heap.size + 1 + 1 + 1 + 1, 0, none⟩), .pointer (some ⟨w.heap.size + 1 + 1 + 1, 0, none⟩), .pointer (some ⟨w.heap.size + 1, 0, none⟩), .pointer (some ⟨w.heap.size + 1 + 1 + 1 + 1 + 1, 0, none⟩)]] 172)
theorem blk_newAt (w : World) (t : TypeId) (cs : Array Value) (g : Nat) (h : w.heap.size = g) : Blk (w.alloc (.cells cs t)) g t cs := by rw [← h]; exact Blk.new w t cs
theorem mvW_below (w : World) (ad : Addr) (n c : Nat) (FV : Value) : Below w.heap.size w (mvW w ad n c FV) := by
  unfold mvW
  exact (((((below_size.alloc (Nat.le_refl _) _).alloc (by simp) _).alloc (by simp; omega) _).alloc (by simp; omega) _).alloc (by simp; omega) _).alloc (by simp; omega) _
theorem mvW_size (w : World) (ad : Addr) (n c : Nat) (FV : Value) : (mvW w ad n c FV).heap.size = w.heap.size + 6 := by unfold mvW; simp
theorem mvW_ok {w : World} {ad : Addr} {n c : Nat} {FV : Value} {t : List (Int × Int)} (h : Rd2 w (some ad) n t) (hab : ad.block < w.heap.size) : MvS (mvW w ad n c FV) w.heap.size ad n c t 0 FV [] := by
  refine ⟨?_, ?_, ⟨some ⟨w.heap.size + 1 + 1, 0, none⟩, 0, ?_, ?_⟩, ?_, ?_, h.below (mvW_below w ad n c FV), hab⟩
  · unfold mvW; exact (((((blk_newAt w _ _ _ rfl).alloc _).alloc _).alloc _).alloc _).alloc _
  · unfold mvW; exact ((((blk_newAt _ _ _ _ (by simp)).alloc _).alloc _).alloc _).alloc _
  · unfold mvW; exact ((blk_newAt _ _ _ _ (by simp)).alloc _).alloc _
  · unfold mvW
    have h1 := Own.litK (w := (w.alloc (.cells #[.slice (some ad) n c] 25)).alloc (.cells #[FV] 130)) (B := w.heap.size) (k := 2) (e := 62) (by simp; omega)
    rw [World.size_alloc, World.size_alloc] at h1
    exact ((h1.alloc _).alloc _).alloc _
  · unfold mvW; exact (blk_newAt _ _ _ _ (by simp)).alloc _
  · unfold mvW; exact blk_newAt _ _ _ _ (by simp)
set_option maxHeartbeats 4000000 in
set_option maxRecDepth 100000 in
theorem mapVarsS_c (V V2 : Value) (F : Int × Int → Nat → List (Int × Int)) (M : Nat) (ad : Addr) (n c : Nat) (t : List (Int × Int)) (w : World) (h : Rd2 w (some ad) n t) (hab : ad.block < w.heap.size) (hn : n ≤ 999) (hM : 1 ≤ M ∧ M ≤ 1000) (hok : ∀ x ∈ t, okL x = true) (hv : endP manyL t 1 = some t.length)
    (HC : ∀ (x : Int × Int) (d : Nat) (wz : World), x.1 = 0 → okL x = true → d ≤ 1000 → Below w.heap.size w wz → Calls Tryz.prog 144 #[.agg #[.int .i64 x.1, .int .i64 x.2], .int .i64 d, V, V2] wz fun e w' => ∃ A l c', e = .returned (.slice A l c') ∧ Rd2 w' A l (F x d) ∧ l ≤ M ∧ Below wz.heap.size wz w') :
    Calls Tryz.prog 104 #[.slice (some ad) n c, .func (.func 144) #[] #[V, V2]] w fun e w' => ∃ A cap, e = .returned (.slice A (mapL F t [0]).length cap) ∧ Wr w' w.heap.size w'.heap.size A ((mapL F t [0]).length * 2) ((mapL F t [0]).flatMap enc2) ∧ (mapL F t [0]).length ≤ n * M ∧ (mapL F t [0]).length ≤ cap ∧ Below w.heap.size w w' := by
  have hl := h.len
  have H := Lib.hid h; have HCC := Lib.hid HC; have HOK := Lib.hid hok; have HV := Lib.hid hv
  clear h HC hok hv
  go_enter Tryz.func104, Tryz.ntmps104
  go_wp2_with fail
  refine ((visitS_c V V2) F M w.heap.size w ad n c t (by omega) hM HOK.out HCC.out n n 0 0 [] (mvW w ad n c _) (Nat.le_refl _) (mvW_ok H.out hab) (by rw [List.drop_zero]; rw [hl] at HV; exact HV.out) (by omega) (by simp; have := Nat.mul_le_mul hn hM.2; omega) (mvW_below _ _ _ _ _) (by rw [mvW_size]; omega)).mono ?_
  rintro e w1 ⟨rfl, h1, b1, z1, l1⟩
  rw [List.drop_zero, List.take_of_length_le (by omega), List.nil_append] at h1
  rw [List.drop_zero, List.take_of_length_le (by omega)] at l1
  obtain ⟨C, cc, hC, hO⟩ := h1.oc
  have r1 := hC.cell 0
  simp at r1
  have O1 := Lib.hid hO; have B1 := Lib.hid b1; have L1 := Lib.hid l1
  clear h1 hC hO b1 l1
  go_wp2_with fail
  go_ret
  exact ⟨C, cc, rfl, O1.out.wrK, L1.out, O1.out.cap, B1.out⟩
set_option maxHeartbeats 4000000 in
set_option maxRecDepth 100000 in
theorem mapVarsR_c (V : Value) (F : Int × Int → Nat → List (Int × Int)) (M : Nat) (ad : Addr) (n c : Nat) (t : List (Int × Int)) (w : World) (h : Rd2 w (some ad) n t) (hab : ad.block < w.heap.size) (hn : n ≤ 999) (hM : 1 ≤ M ∧ M ≤ 1000) (hok : ∀ x ∈ t, okL x = true) (hv : endP manyL t 1 = some t.length)
    (HC : ∀ (x : Int × Int) (d : Nat) (wz : World), x.1 = 0 → okL x = true → d ≤ 1000 → Below w.heap.size w wz → Calls Tryz.prog 105 #[.agg #[.int .i64 x.1, .int .i64 x.2], .int .i64 d, V] wz fun e w' => ∃ A l c', e = .returned (.slice A l c') ∧ Rd2 w' A l (F x d) ∧ l ≤ M ∧ Below wz.heap.size wz w') :
    Calls Tryz.prog 104 #[.slice (some ad) n c, .func (.func 105) #[] #[V]] w fun e w' => ∃ A cap, e = .returned (.slice A (mapL F t [0]).length cap) ∧ Wr w' w.heap.size w'.heap.size A ((mapL F t [0]).length * 2) ((mapL F t [0]).flatMap enc2) ∧ (mapL F t [0]).length ≤ n * M ∧ (mapL F t [0]).length ≤ cap ∧ Below w.heap.size w w' := by
  have hl := h.len
  have H := Lib.hid h; have HCC := Lib.hid HC; have HOK := Lib.hid hok; have HV := Lib.hid hv
  clear h HC hok hv
  go_enter Tryz.func104, Tryz.ntmps104
  go_wp2_with fail
  refine ((visitR_c V) F M w.heap.size w ad n c t (by omega) hM HOK.out HCC.out n n 0 0 [] (mvW w ad n c _) (Nat.le_refl _) (mvW_ok H.out hab) (by rw [List.drop_zero]; rw [hl] at HV; exact HV.out) (by omega) (by simp; have := Nat.mul_le_mul hn hM.2; omega) (mvW_below _ _ _ _ _) (by rw [mvW_size]; omega)).mono ?_
  rintro e w1 ⟨rfl, h1, b1, z1, l1⟩
  rw [List.drop_zero, List.take_of_length_le (by omega), List.nil_append] at h1
  rw [List.drop_zero, List.take_of_length_le (by omega)] at l1
  obtain ⟨C, cc, hC, hO⟩ := h1.oc
  have r1 := hC.cell 0
  simp at r1
  have O1 := Lib.hid hO; have B1 := Lib.hid b1; have L1 := Lib.hid l1
  clear h1 hC hO b1 l1
  go_wp2_with fail
  go_ret
  exact ⟨C, cc, rfl, O1.out.wrK, L1.out, O1.out.cap, B1.out⟩
end Go.Proofs.YtebjpmmgdkepjaaGreatDoor
/-
  Contracts of chapter 12: shifting and reducing a lambda term, of the program.
-/
namespace Go.Proofs.YtebjpmmgdkepjaaGreatDoor
open Go.RowKit

set_option maxHeartbeats 2000000 in
set_option maxRecDepth 100000 in
theorem shifted1_c (p q b : Nat) (x : Int × Int) (d : Nat) (w : World) (h0 : x.1 = 0) (hok : okL x = true) (hd : d ≤ 1000) (hb : b ≤ 1000) (hp : w.cell? ⟨p, 0, none⟩ = some (.int .i64 0)) (hq : w.cell? ⟨q, 0, none⟩ = some (.int .i64 b)) :
    Calls Tryz.prog 144 #[.agg #[.int .i64 x.1, .int .i64 x.2], .int .i64 d, .pointer (some ⟨p, 0, none⟩), .pointer (some ⟨q, 0, none⟩)] w fun e w' => ∃ A l c', e = .returned (.slice A l c') ∧ Rd2 w' A l [shE b x d] ∧ l ≤ 1 ∧ Below w.heap.size w w' := by
  have hx := okL_cases hok
  obtain ⟨x1, x2⟩ := x
  simp only at h0 hx
  subst h0
  have hx2 : 0 ≤ x2 ∧ x2 ≤ 399 := by omega
  obtain ⟨w5, hw5⟩ : ∃ w5, w.alloc (.cells #[.int .i64 0, .int .i64 x2] 62) = w5 := ⟨_, rfl⟩
  have E5 := Lib.hid (show Below w.heap.size w w5 by rw [← hw5]; exact below_size.alloc (Nat.le_refl _) _)
  have K5 := Lib.hid (show Blk w5 w.heap.size 62 #[.int .i64 0, .int .i64 x2] by rw [← hw5]; exact Blk.new _ _ _)
  have y0 : w5.cell? ⟨w.heap.size, 0, none⟩ = some (.int .i64 0) := K5.out.cell 0
  have y1 : w5.cell? ⟨w.heap.size, 1, none⟩ = some (.int .i64 x2) := K5.out.cell 1
  have f1 := K5.out.frozen 1
  have p5 := keepc E5.out hp; have q5 := keepc E5.out hq
  have hz5 := E5.out.size
  have v1 : IntKind.i64.wrap (x2 - (d : Int)) = x2 - (d : Int) := IntWalk.i64_in _ (by omega)
  have v2 : IntKind.i64.wrap (x2 + (b : Int)) = x2 + (b : Int) := IntWalk.i64_in _ (by omega)
  clear hok hx hp hq
  by_cases hc : (d : Int) ≤ x2
  · have g1 : decide ((0 : Int) ≤ x2 - (d : Int)) = true := by rw [decide_eq_true_eq]; omega
    have HS := Lib.hid (show shE b (0, x2) d = (0, x2 + b) by rw [shE, if_pos ⟨rfl, hc⟩])
    obtain ⟨w6, hw6⟩ : ∃ w6, w5.setCell ⟨w.heap.size, 1, none⟩ (.int .i64 (x2 + b)) = w6 := ⟨_, rfl⟩
    have K6 := Lib.hid (show Blk w6 w.heap.size 62 #[.int .i64 0, .int .i64 (x2 + b)] by rw [← hw6]; exact K5.out.set_ 1 _)
    have E6 := Lib.hid (show Below w.heap.size w w6 by rw [← hw6]; exact E5.out.setCell (Nat.le_refl _) _)
    have u0 : w6.cell? ⟨w.heap.size, 0, none⟩ = some (.int .i64 0) := K6.out.cell 0
    have u1 : w6.cell? ⟨w.heap.size, 1, none⟩ = some (.int .i64 (x2 + b)) := K6.out.cell 1
    go_enter Tryz.func144, Tryz.ntmps144
    go_wp2_with fail
    go_ret
    rw [HS.out]
    first | exact ⟨_, _, _, rfl, rd_new2 [(0, x2 + (b : Int))] _ rfl rfl, by omega, E6.out.alloc E6.out.size _⟩ | exact ⟨_, _, ⟨_, rfl⟩, rd_new2 [(0, x2 + (b : Int))] _ rfl rfl, by omega, E6.out.alloc E6.out.size _⟩
  · have g1 : decide ((0 : Int) ≤ x2 - (d : Int)) = false := by rw [decide_eq_false_iff_not]; omega
    have HS := Lib.hid (show shE b (0, x2) d = (0, x2) by rw [shE, if_neg (fun h => hc h.2)])
    go_enter Tryz.func144, Tryz.ntmps144
    go_wp2_with fail
    go_ret
    rw [HS.out]
    first | exact ⟨_, _, _, rfl, rd_new2 [(0, x2)] _ rfl rfl, by omega, E5.out.alloc hz5 _⟩ | exact ⟨_, _, ⟨_, rfl⟩, rd_new2 [(0, x2)] _ rfl rfl, by omega, E5.out.alloc hz5 _⟩
set_option maxHeartbeats 2000000 in
set_option maxRecDepth 100000 in
theorem shifted_c (ad : Addr) (n c : Nat) (t : List (Int × Int)) (b : Nat) (S : List (Int × Int)) (w : World) (h : Rd2 w (some ad) n t) (hab : ad.block < w.heap.size) (hn : n ≤ 999) (hok : ∀ x ∈ t, okL x = true) (hv : endP manyL t 1 = some t.length) (hb : b ≤ 1000) (hS : shiftL b t = S) :
    Calls Tryz.prog 106 #[.slice (some ad) n c, .int .i64 0, .int .i64 b] w fun e w' => ∃ A l c', e = .returned (.slice A l c') ∧ Rd2 w' A l S ∧ l ≤ n ∧ Below w.heap.size w w' := by
  obtain ⟨w2, hw2⟩ : ∃ w2, (w.alloc (.cells #[.int .i64 0] 2)).alloc (.cells #[.int .i64 b] 2) = w2 := ⟨_, rfl⟩
  have E2 := Lib.hid (show Below w.heap.size w w2 by rw [← hw2]; exact (below_size.alloc (Nat.le_refl _) _).alloc (by simp) _)
  have hz2 := E2.out.size
  have p2 := Lib.hid (show w2.cell? ⟨w.heap.size, 0, none⟩ = some (.int .i64 0) by rw [← hw2]; exact ((Blk.new w _ #[.int .i64 0]).alloc _).cell 0)
  have q2 := Lib.hid (show w2.cell? ⟨w.heap.size + 1, 0, none⟩ = some (.int .i64 b) by rw [← hw2]; exact (blk_newAt _ 2 #[.int .i64 b] (w.heap.size + 1) (by simp)).cell 0)
  have H := Lib.hid h; have HOK := Lib.hid hok; have HV := Lib.hid hv
  have HS := Lib.hid hS
  clear h hok hv hS
  go_enter Tryz.func106, Tryz.ntmps106
  go_wp2_with fail
  refine (mapVarsS_c (.pointer (some ⟨w.heap.size, 0, none⟩)) (.pointer (some ⟨w.heap.size + 1, 0, none⟩)) (fun x d => [shE b x d]) 1 ad n c t w2 (H.out.below E2.out) (by omega) hn (by omega) HOK.out HV.out ?_).mono ?_
  · intro x d wz h0 hox hd hbz
    exact shifted1_c w.heap.size (w.heap.size + 1) b x d wz h0 hox hd hb (keepc hbz p2.out) (keepc hbz q2.out)
  rintro e w3 ⟨A3, c3, rfl, hw3, hl3, hc3, hb3⟩
  have W3 := Lib.hid (show Rd2 w3 A3 _ (shiftL b t) from hw3.rd); have B3 := Lib.hid (below_chain E2.out hz2 hb3)
  have L3 := Lib.hid (show (shiftL b t).length ≤ n by have h1 := hl3; rw [Nat.mul_one] at h1; exact h1)
  clear hw3 hl3 hb3
  go_wp2_with fail
  go_ret
  rw [← HS.out]
  exact ⟨A3, _, c3, rfl, W3.out, L3.out, B3.out⟩
set_option maxHeartbeats 2000000 in
set_option maxRecDepth 100000 in
theorem reduced1_c (p : Nat) (aa : Addr) (m ca : Nat) (a : List (Int × Int)) (x : Int × Int) (d : Nat) (w : World) (h0 : x.1 = 0) (hok : okL x = true) (hd : d ≤ 1000) (hp : w.cell? ⟨p, 0, none⟩ = some (.slice (some aa) m ca)) (ha : Rd2 w (some aa) m a) (hab : aa.block < w.heap.size) (hm : m ≤ 999) (hoka : ∀ x ∈ a, okL x = true) (hva : endP manyL a 1 = some a.length) :
    Calls Tryz.prog 105 #[.agg #[.int .i64 x.1, .int .i64 x.2], .int .i64 d, .pointer (some ⟨p, 0, none⟩)] w fun e w' => ∃ A l c', e = .returned (.slice A l c') ∧ Rd2 w' A l (opF a x d) ∧ l ≤ m + 1 ∧ Below w.heap.size w w' := by
  have hx := okL_cases hok
  obtain ⟨x1, x2⟩ := x
  simp only at h0 hx
  subst h0
  have hx2 : 0 ≤ x2 ∧ x2 ≤ 399 := by omega
  obtain ⟨w5, hw5⟩ : ∃ w5, w.alloc (.cells #[.int .i64 0, .int .i64 x2] 62) = w5 := ⟨_, rfl⟩
  have E5 := Lib.hid (show Below w.heap.size w w5 by rw [← hw5]; exact below_size.alloc (Nat.le_refl _) _)
  have K5 := Lib.hid (show Blk w5 w.heap.size 62 #[.int .i64 0, .int .i64 x2] by rw [← hw5]; exact Blk.new _ _ _)
  have y0 : w5.cell? ⟨w.heap.size, 0, none⟩ = some (.int .i64 0) := K5.out.cell 0
  have y1 : w5.cell? ⟨w.heap.size, 1, none⟩ = some (.int .i64 x2) := K5.out.cell 1
  have f1 := K5.out.frozen 1
  have p5 := keepc E5.out hp
  have hz5 := E5.out.size
  have HA5 := Lib.hid (ha.below E5.out); have HOKA := Lib.hid hoka; have HVA := Lib.hid hva
  clear hok hx hp ha hoka hva
  by_cases hc : x2 = (d : Int)
  · subst hc
    have g1 : (((d : Nat) : Int) == (d : Int)) = true := by simp
    obtain ⟨S, hS⟩ : ∃ S, shiftL d a = S := ⟨_, rfl⟩
    have HS := Lib.hid hS
    have HF := Lib.hid (show opF a (0, (d : Int)) d = S by rw [opF, if_pos rfl, hS])
    rw [HF.out]
    clear hS
    go_enter Tryz.func105, Tryz.ntmps105
    go_wp2_with fail
    refine (shifted_c aa m ca a d S w5 HA5.out (by omega) hm HOKA.out HVA.out hd HS.out).mono ?_
    rintro e w6 ⟨A6, l6, c6, rfl, hr6, hl6, hb6⟩
    have R6 := Lib.hid hr6; have B6 := Lib.hid (below_chain E5.out hz5 hb6)
    clear hr6 hb6
    go_wp2_with fail
    go_ret
    exact ⟨A6, l6, c6, rfl, R6.out, by omega, B6.out⟩
  have g1 : (x2 == (d : Int)) = false := by simpa using hc
  by_cases hgt : (d : Int) < x2
  · have g2 : decide ((d : Int) < x2) = true := by rw [decide_eq_true_eq]; exact hgt
    have v1 : IntKind.i64.wrap (x2 - 1) = x2 - 1 := IntWalk.i64_in _ (by omega)
    have HF := Lib.hid (show opF a (0, x2) d = [(0, x2 - 1)] by rw [opF, if_neg hc, if_pos hgt])
    rw [HF.out]
    obtain ⟨w6, hw6⟩ : ∃ w6, w5.setCell ⟨w.heap.size, 1, none⟩ (.int .i64 (x2 - 1)) = w6 := ⟨_, rfl⟩
    have K6 := Lib.hid (show Blk w6 w.heap.size 62 #[.int .i64 0, .int .i64 (x2 - 1)] by rw [← hw6]; exact K5.out.set_ 1 _)
    have E6 := Lib.hid (show Below w.heap.size w w6 by rw [← hw6]; exact E5.out.setCell (Nat.le_refl _) _)
    have u0 : w6.cell? ⟨w.heap.size, 0, none⟩ = some (.int .i64 0) := K6.out.cell 0
    have u1 : w6.cell? ⟨w.heap.size, 1, none⟩ = some (.int .i64 (x2 - 1)) := K6.out.cell 1
    go_enter Tryz.func105, Tryz.ntmps105
    go_wp2_with fail
    go_ret
    first | exact ⟨_, _, _, rfl, rd_new2 [(0, x2 - 1)] _ rfl rfl, by omega, E6.out.alloc E6.out.size _⟩ | exact ⟨_, _, ⟨_, rfl⟩, rd_new2 [(0, x2 - 1)] _ rfl rfl, by omega, E6.out.alloc E6.out.size _⟩
  · have g2 : decide ((d : Int) < x2) = false := by rw [decide_eq_false_iff_not]; exact hgt
    have HF := Lib.hid (show opF a (0, x2) d = [(0, x2)] by rw [opF, if_neg hc, if_neg hgt])
    rw [HF.out]
    go_enter Tryz.func105, Tryz.ntmps105
    go_wp2_with fail
    go_ret
    first | exact ⟨_, _, _, rfl, rd_new2 [(0, x2)] _ rfl rfl, by omega, E5.out.alloc hz5 _⟩ | exact ⟨_, _, ⟨_, rfl⟩, rd_new2 [(0, x2)] _ rfl rfl, by omega, E5.out.alloc hz5 _⟩
end Go.Proofs.YtebjpmmgdkepjaaGreatDoor
