/-
  Contracts of chapter 11 (recursive functions): the reference's ends, parts, and which functions are valid.
-/
import Derived.Test.YtnoapoaajidncaaDoorC11a
namespace Go.Proofs.YtnoapoaajidncaaDoor
open Go.RowKit
open FTr

/-- the places of functions that stand one behind the other -/
def plT : Nat → List FTr → List Nat
  | _, [] => []
  | a, t :: ts => a :: plT (a + (flat t).length) ts
theorem plT_len : ∀ (a : Nat) (ts : List FTr), (plT a ts).length = ts.length
  | _, [] => rfl
  | a, t :: ts => by rw [plT, List.length_cons, plT_len, List.length_cons]
theorem plT_app : ∀ (a : Nat) (ts us : List FTr), plT a (ts ++ us) = plT a ts ++ plT (a + (flats ts).length) us
  | a, [], us => by simp [plT, flats_nil]
  | a, t :: ts, us => by rw [List.cons_append, plT, plT, plT_app, flats_cons, List.length_append, Nat.add_assoc]; rfl
theorem plT_at {a i : Nat} {ts : List FTr} {t : FTr} (h : ts[i]? = some t) : (plT a ts)[i]? = some (a + (flats (ts.take i)).length) := by
  have hi := (List.getElem?_eq_some_iff.1 h).1
  have e : ts = ts.take i ++ t :: ts.drop (i + 1) := by rw [← drop_at h, List.take_append_drop]
  have h1 : plT a (ts.take i ++ t :: ts.drop (i + 1)) = _ := plT_app a _ _
  rw [← e, plT] at h1
  rw [h1, List.getElem?_append_right (by rw [plT_len, List.length_take]; omega), plT_len, List.length_take, show i - min i ts.length = 0 by omega]; rfl
theorem flats_take {i : Nat} {ts : List FTr} {t : FTr} (h : ts[i]? = some t) : flats (ts.take (i + 1)) = flats (ts.take i) ++ flat t := by
  rw [take_at h, flats_app, flats_cons, flats_nil, List.append_nil]
theorem flats_from {i : Nat} {ts : List FTr} {t : FTr} (h : ts[i]? = some t) : flats ts = flats (ts.take i) ++ (flat t ++ flats (ts.drop (i + 1))) := by
  rw [← flats_cons, ← drop_at h, ← flats_app, List.take_append_drop]
/-- a function's part in the list -/
theorem part_at {f : List Nd3} {k i : Nat} {x : Nd3} {ts : List FTr} {t : FTr} {r : List Nd3} (hf : f.drop k = flat (mk x ts) ++ r) (h : ts[i]? = some t) :
    ∃ r', f.drop (k + 1 + (flats (ts.take i)).length) = flat t ++ r' := by
  rw [flat_mk, flats_from h, List.cons_append] at hf
  refine ⟨flats (ts.drop (i + 1)) ++ r, ?_⟩
  rw [← List.drop_drop, ← List.drop_drop, hf, List.drop_succ_cons, List.drop_zero, List.append_assoc, List.drop_left, List.append_assoc]
theorem root_at {f : List Nd3} {k : Nat} {t : FTr} {r : List Nd3} (hf : f.drop k = flat t ++ r) : f[k]? = some t.node := by
  obtain ⟨x, ts⟩ := t
  rw [flat_mk, List.cons_append] at hf
  exact (head_of hf).1
theorem nsE_at {f : List Nd3} {k : Nat} {t : FTr} {r : List Nd3} (hf : f.drop k = flat t ++ r) (h : okS t = true) : nsE (f.drop k) 1 = some (flat t).length := by
  have := tree_nsE _ [t] r (Nat.le_refl _) (fun u hu => by rw [List.mem_singleton] at hu; subst hu; exact h)
  rw [flats_cons, flats_nil, List.append_nil] at this
  rw [hf]; exact this
/-- the end of a function, or that there is none -/
def EndOut (Z : Option Nat) (w : World) (e : Ending) (w' : World) : Prop := (match Z with
  | some z => e = .returned (.tuple #[.int .i64 z, .bool true])
  | none => ∃ u : Nat, e = .returned (.tuple #[.int .i64 u, .bool false])) ∧ Qt w w'
theorem manyF_le (x : Nd3) (h : nodeF x = true) : manyF x ≤ 5 := by
  have hb := (nodeF_bd h).2.2
  unfold manyF folF
  split
  · simp; omega
  split
  · simp
  split <;> simp
set_option maxHeartbeats 2000000 in
set_option maxRecDepth 100000 in
theorem l11End_c (A : Option Addr) (n cp : Nat) (f : List Nd3) (k : Nat) (Z : Option Nat) (w : World) (h : Rd3 w A n f) (hn : n ≤ 1000000000) (hk : k ≤ n) (hZ : (nsE (f.drop k) 1).map (k + ·) = Z) :
    Calls Tryd.prog 46 #[.slice A n cp, .int .i64 k] w (EndOut Z w) := by
  have HZ := Lib.hid hZ
  clear hZ
  have HL := Lib.hid h.len
  have H := Lib.hid h; clear h
  go_enter Tryd.func46, Tryd.ntmps46
  go_wp2_with fail
  go_loopw [1, 6] (fun kv ov wr => ∃ j o : Nat, j ≤ n ∧ o ≤ 5 * j + 1 ∧ kv = .int .i64 j ∧ ov = .int .i64 o ∧ Hid ((nsE (f.drop j) o).map (j + ·) = Z) ∧ Qt w wr) (fun kv _ _ => n - (intOf kv).toNat)
  case atStart => exact ⟨k, 1, hk, by omega, rfl, rfl, HZ.out, Qt.refl _⟩
  case round =>
    obtain ⟨j, o, hj, ho, rfl, rfl, hr, hb⟩ := hrel
    have HB := Lib.hid hb
    by_cases ho0 : o = 0
    · subst ho0
      have HR := Lib.hid (show some j = Z by rw [← hr.out, nsE_zero]; rfl)
      clear hr hb
      go_wp2_with fail
      refine bodyPost_ret (v := .tuple #[.int .i64 j, .bool true]) (by simp [results, Tryd.results46, go_sem]) rfl ?_
      rw [← HR.out]
      exact ⟨rfl, HB.out⟩
    have g0 : decide ((0 : Int) < (o : Int)) = true := by rw [decide_eq_true_eq]; omega
    obtain ⟨o, rfl⟩ : ∃ o', o = o' + 1 := ⟨o - 1, by omega⟩
    have g0 : decide ((0 : Int) < ((o + 1 : Nat) : Int)) = true := by rw [decide_eq_true_eq]; omega
    by_cases hlt : j < n
    · have e0 : ((j : Int) == (n : Int)) = false := by simp; omega
      obtain ⟨ad, x, rfl, hab, hx, hc0, hc1, hc2⟩ := (H.out.below (hb.below _)).at_ hlt
      obtain ⟨q, hq⟩ : ∃ q, nodeF x = q := ⟨_, rfl⟩
      have HQ := Lib.hid hq
      have HS := Lib.hid (show (if q = true then ((nsE (f.drop (j + 1)) (o + manyF x)).map (· + 1)).map (j + ·) else none) = Z by
        rw [← hr.out, drop_at hx, nsE, hq]
        cases q <;> rfl)
      have C0 := Lib.hid hc0; have C1 := Lib.hid hc1; have C2 := Lib.hid hc2
      clear hx hr hb hq
      cases q
      · have HR := Lib.hid (show none = Z from HS.out)
        go_wp2_with (first | (go_at_call 56; refine (l11Node_c _ x false _ C0.out C1.out C2.out HQ.out).mono ?_; rintro e w' ⟨rfl, ⟨m1, rfl⟩⟩))
        refine bodyPost_ret (v := .tuple #[.int .i64 j, .bool false]) (by simp [results, Tryd.results46, go_sem]) rfl ?_
        rw [← HR.out]
        exact ⟨⟨j, rfl⟩, HB.out.drewN _⟩
      · obtain ⟨m, hm⟩ : ∃ m, manyF x = m := ⟨_, rfl⟩
        have hm5 := manyF_le x HQ.out
        rw [hm] at hm5 HS
        have HM := Lib.hid hm
        have HR := Lib.hid (show (nsE (f.drop (j + 1)) (o + m)).map (j + 1 + ·) = Z by
          rw [← HS.out]
          simp only [if_true, Option.map_map]
          congr 1; funext u; simp only [Function.comp]; omega)
        clear hm
        have v1 : IntKind.i64.wrap ((m : Int) - 1) = (m : Int) - 1 := IntWalk.i64_in _ (by omega)
        have v2 : IntKind.i64.wrap (((o + 1 : Nat) : Int) + ((m : Int) - 1)) = ((o + m : Nat) : Int) := by rw [IntWalk.i64_in _ (by omega)]; omega
        go_wp2_with (first | (go_at_call 56; refine (l11Node_c _ x true _ C0.out C1.out C2.out HQ.out).mono ?_; rintro e w' ⟨rfl, ⟨m1, rfl⟩⟩) | (go_at_call 48; refine (l11Many_c _ x m _ (by exact C0.out) (by exact C2.out) HQ.out HM.out).mono ?_; rintro e w' ⟨rfl, rfl⟩))
        go_roundw
        case rel => exact ⟨j + 1, o + m, by omega, by omega, by go_num, by go_num, HR.out, HB.out.drewN _⟩
        case measure => simp [intOf]; omega
    · obtain rfl : j = n := by omega
      have HR := Lib.hid (show none = Z by rw [← hr.out, List.drop_eq_nil_of_le (by rw [HL.out]; exact Nat.le_refl _)]; rfl)
      clear hr hb
      go_wp2_with fail
      refine bodyPost_ret (v := .tuple #[.int .i64 j, .bool false]) (by simp [results, Tryd.results46, go_sem]) rfl ?_
      rw [← HR.out]
      exact ⟨⟨j, rfl⟩, HB.out⟩
/-- the places of the parts -/
def PlOut (a : Nat) (ts : List FTr) (m : Nat) (w : World) (e : Ending) (w' : World) : Prop := ∃ A c, e = .returned (.slice A m c) ∧ RdI w' A m ((plT a ts).map Int.ofNat) ∧ Below w.heap.size w w'
theorem info_int : (Tryd.prog.info? 3).map (fun i => (i.zero, i.size, i.bytes)) = some (some (.int .i64 0), 1, 8) := by kernel_rfl
set_option maxHeartbeats 2000000 in
set_option maxRecDepth 100000 in
theorem l11Parts_c (A : Option Addr) (n cp : Nat) (f : List Nd3) (k : Nat) (x : Nd3) (ts : List FTr) (r : List Nd3) (w : World) (h : Rd3 w A n f) (hn : n ≤ 1000000000) (hf : f.drop k = flat (mk x ts) ++ r) (ho : okS (mk x ts) = true) (m : Nat) (hmm : ts.length = m) :
    Calls Tryd.prog 33 #[.slice A n cp, .int .i64 k] w (PlOut (k + 1) ts m w) := by
  have hL := h.len
  have hkl := congrArg List.length hf
  rw [List.length_drop, List.length_append, hL, flat_mk, List.length_cons] at hkl
  have hroot : f[k]? = some x := root_at hf
  obtain ⟨ad, x', rfl, hab, hx, hc0, hc1, hc2⟩ := h.at_ (k := k) (by omega)
  rw [hroot] at hx
  injection hx with hx; subst hx
  obtain ⟨ho1, ho2, ho3⟩ := okS_iff.1 ho
  have hm : manyF x = m := by rw [← ho2]; exact hmm
  have hm5 := manyF_le x ho1
  rw [hm] at ho2 hm5
  have HM := Lib.hid hm; have HN := Lib.hid ho1; have HK := Lib.hid ho3; have HT := Lib.hid ho2; have HF := Lib.hid hf
  have C0 := Lib.hid (show w.cell? (ad.add (k * 3)) = some (i64 x.1) from hc0); have C2 := Lib.hid (show w.cell? ⟨(ad.add (k * 3)).block, (ad.add (k * 3)).off + 2, none⟩ = some (i64 x.2.2) from hc2)
  have C0' := Lib.hid (show (w.alloc (.cells #[] 3)).cell? (ad.add (k * 3)) = some (i64 x.1) from keepa _ C0.out)
  have C2' := Lib.hid (show (w.alloc (.cells #[] 3)).cell? ⟨(ad.add (k * 3)).block, (ad.add (k * 3)).off + 2, none⟩ = some (i64 x.2.2) from keepa _ C2.out)
  have H := Lib.hid h
  have hkn : k < n := by omega
  clear h hm hmm ho ho1 ho2 ho3 hf hc0 hc1 hc2 hroot
  go_enter Tryd.func33, Tryd.ntmps33
  go_wp2_with (first | (go_at_call 48; refine (l11Many_c _ x m _ (by exact C0'.out) (by exact C2'.out) HN.out HM.out).mono ?_; rintro e w' ⟨rfl, rfl⟩))
  go_loopw [5, 6, 7] (fun ov av nv wr => ∃ (i : Nat) (B : Option Addr) (cc a : Nat), i ≤ m ∧ ov = .slice B i cc ∧ av = .int .i64 a ∧ a ≤ n ∧ Hid (a = k + 1 + (flats (ts.take i)).length) ∧ nv = .int .i64 ((m - i : Nat) : Int) ∧ Hid (Own wr w.heap.size 3 1 B i cc (((plT (k + 1) (ts.take i)).map Int.ofNat).map i64)) ∧ Below w.heap.size w wr) (fun _ _ nv _ => (intOf nv).toNat)
  case atStart => exact ⟨0, some ⟨w.heap.size, 0, none⟩, 0, k + 1, by omega, rfl, by go_num, by omega, by simp [Hid, flats_nil], rfl, Own.lit (Nat.le_refl _), below_size.alloc (Nat.le_refl _) _⟩
  case round =>
    obtain ⟨i, B, cc, a, hi, rfl, rfl, han, ha, rfl, hO, hb⟩ := hrel
    have EB := Lib.hid hb
    have hwz := hb.size
    by_cases hlt : i < m
    · have g0 : decide ((0 : Int) < ((m - i : Nat) : Int)) = true := by rw [decide_eq_true_eq]; omega
      obtain ⟨t, ht⟩ : ∃ t, ts[i]? = some t := ⟨_, List.getElem?_eq_getElem (by rw [HT.out]; exact hlt)⟩
      obtain ⟨r', hr'⟩ := part_at HF.out ht
      rw [← ha.out] at hr'
      have hE := nsE_at hr' (HK.out t (List.mem_of_getElem? ht))
      obtain ⟨b, hbb⟩ : ∃ b, a + (flat t).length = b := ⟨_, rfl⟩
      have HE := Lib.hid (show (nsE (f.drop a) 1).map (a + ·) = some b by rw [hE, ← hbb]; rfl)
      have hbn : b ≤ n := by
        have := congrArg List.length hr'
        rw [List.length_drop, List.length_append, hL] at this
        have := flat_pos t
        omega
      have HP := Lib.hid (show (plT (k + 1) (ts.take (i + 1))).map Int.ofNat = (plT (k + 1) (ts.take i)).map Int.ofNat ++ [(a : Int)] by
        rw [take_at ht, plT_app, ← ha.out, List.map_append]; rfl)
      have HB2 := Lib.hid (show b = k + 1 + (flats (ts.take (i + 1))).length by
        rw [flats_take ht, List.length_append, ← hbb, ha.out]; omega)
      clear ht hr' hE hbb ha hb
      go_wp2_with (first | (at_builtin; refine wp_app1 (by rfl) _ _ 51 3 (.int .i64 0) 8 (by rfl) Tryd.underlying51 info_int rfl w.heap.size B i cc _ (by rfl) (by exact hO.out.alloc _) wr.heap.size (.int .i64 a) (by rfl) (by exact new_cell _ _ _ 0) (by rfl) (by omega) (by omega) (by simp; omega) ?_; intro g' cap w3 own3 hb3 hk3 hg3 hz3; have O3 := Lib.hid own3; have E3 := Lib.hid ((EB.out.alloc hwz (.cells #[.int .i64 a] 3)).trans hb3); clear own3 hb3 hk3 hg3 hz3) | (go_at_call 46; refine (l11End_c (some ad) n cp f a (some b) _ (H.out.below E3.out) (by omega) han HE.out).mono ?_; rintro e w4 ⟨he, ⟨m4, rfl⟩⟩; simp only at he; subst he))
      have v1 : IntKind.i64.wrap (((m - i : Nat) : Int) - 1) = ((m - (i + 1) : Nat) : Int) := by rw [IntWalk.i64_in _ (by omega)]; omega
      go_wp2_with fail
      go_roundw
      case rel => exact ⟨i + 1, some ⟨g', 0, none⟩, cap, b, by omega, rfl, rfl, hbn, HB2.out, by go_num, by unfold Hid; rw [HP.out, List.map_append]; exact O3.out, below_drewN E3.out _⟩
      case measure => simp [intOf]; omega
    · obtain rfl : i = m := by omega
      have g0 : decide ((0 : Int) < ((i - i : Nat) : Int)) = false := by rw [Nat.sub_self]; rfl
      clear hb
      go_wp2_with fail
      go_ret
      have hO := hO.out.wr.rdI
      rw [List.take_of_length_le (by rw [HT.out]; exact Nat.le_refl _)] at hO
      exact ⟨B, cc, rfl, hO, EB.out⟩
end Go.Proofs.YtnoapoaajidncaaDoor
