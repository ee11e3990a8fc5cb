/-
  Parts of the proof, one behind the other: contracts of the functions that the law reaches, and plain laws.
-/
import Derived.BigQuiet
import Derived.Test.YtebjpmmgdkepjaaGreatDoorLot14
import Derived.Test.YtebjpmmgdkepjaaGreatDoorLot16
import Derived.Test.YtebjpmmgdkepjaaGreatDoorLot19
import Derived.Test.YtebjpmmgdkepjaaGreatDoorLot20
/-
  Contracts of chapter 11 (recursive functions): the reference's ends, parts, and which functions are valid.
-/
namespace Go.Proofs.YtebjpmmgdkepjaaGreatDoor
open Go.RowKit
open FTr

/-- the places of functions that stand one behind the other -/
def plT : Nat → List FTr → List Nat
  | _, [] => []
  | a, t :: ts => a :: plT (a + (flat t).length) ts
theorem plT_len : ∀ (a : Nat) (ts : List FTr), (plT a ts).length = ts.length
  | _, [] => rfl
  | a, t :: ts => by rw [plT, List.length_cons, plT_len, List.length_cons]
theorem plT_app : ∀ (a : Nat) (ts us : List FTr), plT a (ts ++ us) = plT a ts ++ plT (a + (flats ts).length) us
  | a, [], us => by simp [plT, flats_nil]
  | a, t :: ts, us => by rw [List.cons_append, plT, plT, plT_app, flats_cons, List.length_append, Nat.add_assoc]; rfl
theorem plT_at {a i : Nat} {ts : List FTr} {t : FTr} (h : ts[i]? = some t) : (plT a ts)[i]? = some (a + (flats (ts.take i)).length) := by
  have hi := (List.getElem?_eq_some_iff.1 h).1
  have e : ts = ts.take i ++ t :: ts.drop (i + 1) := by rw [← drop_at h, List.take_append_drop]
  have h1 : plT a (ts.take i ++ t :: ts.drop (i + 1)) = _ := plT_app a _ _
  rw [← e, plT] at h1
  rw [h1, List.getElem?_append_right (by rw [plT_len, List.length_take]; omega), plT_len, List.length_take, show i - min i ts.length = 0 by omega]; rfl
theorem flats_take {i : Nat} {ts : List FTr} {t : FTr} (h : ts[i]? = some t) : flats (ts.take (i + 1)) = flats (ts.take i) ++ flat t := by
  rw [take_at h, flats_app, flats_cons, flats_nil, List.append_nil]
theorem flats_from {i : Nat} {ts : List FTr} {t : FTr} (h : ts[i]? = some t) : flats ts = flats (ts.take i) ++ (flat t ++ flats (ts.drop (i + 1))) := by
  rw [← flats_cons, ← drop_at h, ← flats_app, List.take_append_drop]
/-- a function's part in the list -/
theorem part_at {f : List Nd3} {k i : Nat} {x : Nd3} {ts : List FTr} {t : FTr} {r : List Nd3} (hf : f.drop k = flat (mk x ts) ++ r) (h : ts[i]? = some t) :
    ∃ r', f.drop (k + 1 + (flats (ts.take i)).length) = flat t ++ r' := by
  rw [flat_mk, flats_from h, List.cons_append] at hf
  refine ⟨flats (ts.drop (i + 1)) ++ r, ?_⟩
  rw [← List.drop_drop, ← List.drop_drop, hf, List.drop_succ_cons, List.drop_zero, List.append_assoc, List.drop_left, List.append_assoc]
theorem root_at {f : List Nd3} {k : Nat} {t : FTr} {r : List Nd3} (hf : f.drop k = flat t ++ r) : f[k]? = some t.node := by
  obtain ⟨x, ts⟩ := t
  rw [flat_mk, List.cons_append] at hf
  exact (head_of hf).1
theorem nsE_at {f : List Nd3} {k : Nat} {t : FTr} {r : List Nd3} (hf : f.drop k = flat t ++ r) (h : okS t = true) : nsE (f.drop k) 1 = some (flat t).length := by
  have := tree_nsE _ [t] r (Nat.le_refl _) (fun u hu => by rw [List.mem_singleton] at hu; subst hu; exact h)
  rw [flats_cons, flats_nil, List.append_nil] at this
  rw [hf]; exact this
/-- the end of a function, or that there is none -/
def EndOut (Z : Option Nat) (w : World) (e : Ending) (w' : World) : Prop := (match Z with
  | some z => e = .returned (.tuple #[.int .i64 z, .bool true])
  | none => ∃ u : Nat, e = .returned (.tuple #[.int .i64 u, .bool false])) ∧ Qt w w'
theorem manyF_le (x : Nd3) (h : nodeF x = true) : manyF x ≤ 5 := by
  have hb := (nodeF_bd h).2.2
  unfold manyF folF
  split
  · simp; omega
  split
  · simp
  split <;> simp
set_option maxHeartbeats 2000000 in
set_option maxRecDepth 100000 in
theorem l11End_c (A : Option Addr) (n cp : Nat) (f : List Nd3) (k : Nat) (Z : Option Nat) (w : World) (h : Rd3 w A n f) (hn : n ≤ 1000000000) (hk : k ≤ n) (hZ : (nsE (f.drop k) 1).map (k + ·) = Z) :
    Calls Tryz.prog 116 #[.slice A n cp, .int .i64 k] w (EndOut Z w) := by
  have HZ := Lib.hid hZ
  clear hZ
  have HL := Lib.hid h.len
  have H := Lib.hid h; clear h
  go_enter Tryz.func116, Tryz.ntmps116
  go_wp2_with fail
  go_loopw [1, 6] (fun kv ov wr => ∃ j o : Nat, j ≤ n ∧ o ≤ 5 * j + 1 ∧ kv = .int .i64 j ∧ ov = .int .i64 o ∧ Hid ((nsE (f.drop j) o).map (j + ·) = Z) ∧ Qt w wr) (fun kv _ _ => n - (intOf kv).toNat)
  case atStart => exact ⟨k, 1, hk, by omega, rfl, rfl, HZ.out, Qt.refl _⟩
  case round =>
    obtain ⟨j, o, hj, ho, rfl, rfl, hr, hb⟩ := hrel
    have HB := Lib.hid hb
    by_cases ho0 : o = 0
    · subst ho0
      have HR := Lib.hid (show some j = Z by rw [← hr.out, nsE_zero]; rfl)
      clear hr hb
      go_wp2_with fail
      refine bodyPost_ret (v := .tuple #[.int .i64 j, .bool true]) (by simp [results, Tryz.results116, go_sem]) rfl ?_
      rw [← HR.out]
      exact ⟨rfl, HB.out⟩
    have g0 : decide ((0 : Int) < (o : Int)) = true := by rw [decide_eq_true_eq]; omega
    obtain ⟨o, rfl⟩ : ∃ o', o = o' + 1 := ⟨o - 1, by omega⟩
    have g0 : decide ((0 : Int) < ((o + 1 : Nat) : Int)) = true := by rw [decide_eq_true_eq]; omega
    by_cases hlt : j < n
    · have e0 : ((j : Int) == (n : Int)) = false := by simp; omega
      obtain ⟨ad, x, rfl, hab, hx, hc0, hc1, hc2⟩ := (H.out.below (hb.below _)).at_ hlt
      obtain ⟨q, hq⟩ : ∃ q, nodeF x = q := ⟨_, rfl⟩
      have HQ := Lib.hid hq
      have HS := Lib.hid (show (if q = true then ((nsE (f.drop (j + 1)) (o + manyF x)).map (· + 1)).map (j + ·) else none) = Z by
        rw [← hr.out, drop_at hx, nsE, hq]
        cases q <;> rfl)
      have C0 := Lib.hid hc0; have C1 := Lib.hid hc1; have C2 := Lib.hid hc2
      clear hx hr hb hq
      cases q
      · have HR := Lib.hid (show none = Z from HS.out)
        go_wp2_with (first | (go_at_call 161; refine (l11Node_c _ x false _ C0.out C1.out C2.out HQ.out).mono ?_; rintro e w' ⟨rfl, ⟨m1, rfl⟩⟩))
        refine bodyPost_ret (v := .tuple #[.int .i64 j, .bool false]) (by simp [results, Tryz.results116, go_sem]) rfl ?_
        rw [← HR.out]
        exact ⟨⟨j, rfl⟩, HB.out.drewN _⟩
      · obtain ⟨m, hm⟩ : ∃ m, manyF x = m := ⟨_, rfl⟩
        have hm5 := manyF_le x HQ.out
        rw [hm] at hm5 HS
        have HM := Lib.hid hm
        have HR := Lib.hid (show (nsE (f.drop (j + 1)) (o + m)).map (j + 1 + ·) = Z by
          rw [← HS.out]
          simp only [if_true, Option.map_map]
          congr 1; funext u; simp only [Function.comp]; omega)
        clear hm
        have v1 : IntKind.i64.wrap ((m : Int) - 1) = (m : Int) - 1 := IntWalk.i64_in _ (by omega)
        have v2 : IntKind.i64.wrap (((o + 1 : Nat) : Int) + ((m : Int) - 1)) = ((o + m : Nat) : Int) := by rw [IntWalk.i64_in _ (by omega)]; omega
        go_wp2_with (first | (go_at_call 161; refine (l11Node_c _ x true _ C0.out C1.out C2.out HQ.out).mono ?_; rintro e w' ⟨rfl, ⟨m1, rfl⟩⟩) | (go_at_call 118; refine (l11Many_c _ x m _ (by exact C0.out) (by exact C2.out) HQ.out HM.out).mono ?_; rintro e w' ⟨rfl, rfl⟩))
        go_roundw
        case rel => exact ⟨j + 1, o + m, by omega, by omega, by go_num, by go_num, HR.out, HB.out.drewN _⟩
        case measure => simp [intOf]; omega
    · obtain rfl : j = n := by omega
      have HR := Lib.hid (show none = Z by rw [← hr.out, List.drop_eq_nil_of_le (by rw [HL.out]; exact Nat.le_refl _)]; rfl)
      clear hr hb
      go_wp2_with fail
      refine bodyPost_ret (v := .tuple #[.int .i64 j, .bool false]) (by simp [results, Tryz.results116, go_sem]) rfl ?_
      rw [← HR.out]
      exact ⟨⟨j, rfl⟩, HB.out⟩
/-- the places of the parts -/
def PlOut (a : Nat) (ts : List FTr) (m : Nat) (w : World) (e : Ending) (w' : World) : Prop := ∃ A c, e = .returned (.slice A m c) ∧ RdI w' A m ((plT a ts).map Int.ofNat) ∧ Below w.heap.size w w'
theorem info_int : (Tryz.prog.info? 3).map (fun i => (i.zero, i.size, i.bytes)) = some (some (.int .i64 0), 1, 8) := by kernel_rfl
set_option maxHeartbeats 2000000 in
set_option maxRecDepth 100000 in
theorem l11Parts_c (A : Option Addr) (n cp : Nat) (f : List Nd3) (k : Nat) (x : Nd3) (ts : List FTr) (r : List Nd3) (w : World) (h : Rd3 w A n f) (hn : n ≤ 1000000000) (hf : f.drop k = flat (mk x ts) ++ r) (ho : okS (mk x ts) = true) (m : Nat) (hmm : ts.length = m) :
    Calls Tryz.prog 162 #[.slice A n cp, .int .i64 k] w (PlOut (k + 1) ts m w) := by
  have hL := h.len
  have hkl := congrArg List.length hf
  rw [List.length_drop, List.length_append, hL, flat_mk, List.length_cons] at hkl
  have hroot : f[k]? = some x := root_at hf
  obtain ⟨ad, x', rfl, hab, hx, hc0, hc1, hc2⟩ := h.at_ (k := k) (by omega)
  rw [hroot] at hx
  injection hx with hx; subst hx
  obtain ⟨ho1, ho2, ho3⟩ := okS_iff.1 ho
  have hm : manyF x = m := by rw [← ho2]; exact hmm
  have hm5 := manyF_le x ho1
  rw [hm] at ho2 hm5
  have HM := Lib.hid hm; have HN := Lib.hid ho1; have HK := Lib.hid ho3; have HT := Lib.hid ho2; have HF := Lib.hid hf
  have C0 := Lib.hid (show w.cell? (ad.add (k * 3)) = some (i64 x.1) from hc0); have C2 := Lib.hid (show w.cell? ⟨(ad.add (k * 3)).block, (ad.add (k * 3)).off + 2, none⟩ = some (i64 x.2.2) from hc2)
  have C0' := Lib.hid (show (w.alloc (.cells #[] 3)).cell? (ad.add (k * 3)) = some (i64 x.1) from keepa _ C0.out)
  have C2' := Lib.hid (show (w.alloc (.cells #[] 3)).cell? ⟨(ad.add (k * 3)).block, (ad.add (k * 3)).off + 2, none⟩ = some (i64 x.2.2) from keepa _ C2.out)
  have H := Lib.hid h
  have hkn : k < n := by omega
  clear h hm hmm ho ho1 ho2 ho3 hf hc0 hc1 hc2 hroot
  go_enter Tryz.func162, Tryz.ntmps162
  go_wp2_with (first | (go_at_call 118; refine (l11Many_c _ x m _ (by exact C0'.out) (by exact C2'.out) HN.out HM.out).mono ?_; rintro e w' ⟨rfl, rfl⟩))
  go_loopw [5, 6, 7] (fun ov av nv wr => ∃ (i : Nat) (B : Option Addr) (cc a : Nat), i ≤ m ∧ ov = .slice B i cc ∧ av = .int .i64 a ∧ a ≤ n ∧ Hid (a = k + 1 + (flats (ts.take i)).length) ∧ nv = .int .i64 ((m - i : Nat) : Int) ∧ Hid (Own wr w.heap.size 3 1 B i cc (((plT (k + 1) (ts.take i)).map Int.ofNat).map i64)) ∧ Below w.heap.size w wr) (fun _ _ nv _ => (intOf nv).toNat)
  case atStart => exact ⟨0, some ⟨w.heap.size, 0, none⟩, 0, k + 1, by omega, rfl, by go_num, by omega, by simp [Hid, flats_nil], rfl, Own.lit (Nat.le_refl _), below_size.alloc (Nat.le_refl _) _⟩
  case round =>
    obtain ⟨i, B, cc, a, hi, rfl, rfl, han, ha, rfl, hO, hb⟩ := hrel
    have EB := Lib.hid hb
    have hwz := hb.size
    by_cases hlt : i < m
    · have g0 : decide ((0 : Int) < ((m - i : Nat) : Int)) = true := by rw [decide_eq_true_eq]; omega
      obtain ⟨t, ht⟩ : ∃ t, ts[i]? = some t := ⟨_, List.getElem?_eq_getElem (by rw [HT.out]; exact hlt)⟩
      obtain ⟨r', hr'⟩ := part_at HF.out ht
      rw [← ha.out] at hr'
      have hE := nsE_at hr' (HK.out t (List.mem_of_getElem? ht))
      obtain ⟨b, hbb⟩ : ∃ b, a + (flat t).length = b := ⟨_, rfl⟩
      have HE := Lib.hid (show (nsE (f.drop a) 1).map (a + ·) = some b by rw [hE, ← hbb]; rfl)
      have hbn : b ≤ n := by
        have := congrArg List.length hr'
        rw [List.length_drop, List.length_append, hL] at this
        have := flat_pos t
        omega
      have HP := Lib.hid (show (plT (k + 1) (ts.take (i + 1))).map Int.ofNat = (plT (k + 1) (ts.take i)).map Int.ofNat ++ [(a : Int)] by
        rw [take_at ht, plT_app, ← ha.out, List.map_append]; rfl)
      have HB2 := Lib.hid (show b = k + 1 + (flats (ts.take (i + 1))).length by
        rw [flats_take ht, List.length_append, ← hbb, ha.out]; omega)
      clear ht hr' hE hbb ha hb
      go_wp2_with (first | (at_builtin; refine wp_app1 (by rfl) _ _ 191 3 (.int .i64 0) 8 (by rfl) Tryz.underlying191 info_int rfl w.heap.size B i cc _ (by rfl) (by exact hO.out.alloc _) wr.heap.size (.int .i64 a) (by rfl) (by exact new_cell _ _ _ 0) (by rfl) (by omega) (by omega) (by simp; omega) ?_; intro g' cap w3 own3 hb3 hk3 hg3 hz3; have O3 := Lib.hid own3; have E3 := Lib.hid ((EB.out.alloc hwz (.cells #[.int .i64 a] 3)).trans hb3); clear own3 hb3 hk3 hg3 hz3) | (go_at_call 116; refine (l11End_c (some ad) n cp f a (some b) _ (H.out.below E3.out) (by omega) han HE.out).mono ?_; rintro e w4 ⟨he, ⟨m4, rfl⟩⟩; simp only at he; subst he))
      have v1 : IntKind.i64.wrap (((m - i : Nat) : Int) - 1) = ((m - (i + 1) : Nat) : Int) := by rw [IntWalk.i64_in _ (by omega)]; omega
      go_wp2_with fail
      go_roundw
      case rel => exact ⟨i + 1, some ⟨g', 0, none⟩, cap, b, by omega, rfl, rfl, hbn, HB2.out, by go_num, by unfold Hid; rw [HP.out, List.map_append]; exact O3.out, below_drewN E3.out _⟩
      case measure => simp [intOf]; omega
    · obtain rfl : i = m := by omega
      have g0 : decide ((0 : Int) < ((i - i : Nat) : Int)) = false := by rw [Nat.sub_self]; rfl
      clear hb
      go_wp2_with fail
      go_ret
      have hO := hO.out.wr.rdI
      rw [List.take_of_length_le (by rw [HT.out]; exact Nat.le_refl _)] at hO
      exact ⟨B, cc, rfl, hO, EB.out⟩
end Go.Proofs.YtebjpmmgdkepjaaGreatDoor
/-
  Contracts of chapter 11 (recursive functions): which functions the reference takes.
-/
namespace Go.Proofs.YtebjpmmgdkepjaaGreatDoor
open Go.RowKit
open FTr

theorem addrZf (a : Addr) : a.add 0 = a := by simp [Addr.add]
theorem addr1f (a : Addr) : a.add 1 = ⟨a.block, a.off + 1, none⟩ := by rw [Addr.add, if_neg (by omega)]
/-- the arity of a part, in memory -/
theorem part_ar {w : World} {ad : Addr} {n k i : Nat} {f : List Nd3} {x : Nd3} {ts : List FTr} {t : FTr} {r : List Nd3} (h : Rd3 w (some ad) n f) (hf : f.drop k = flat (mk x ts) ++ r) (ht : ts[i]? = some t) :
    ∃ p : Nat, p < n ∧ (plT (k + 1) ts)[i]? = some p ∧ w.cell? ⟨(ad.add (p * 3)).block, (ad.add (p * 3)).off + 1, none⟩ = some (i64 (ar t)) := by
  obtain ⟨r', hr'⟩ := part_at hf ht
  have hl := h.len
  have hp : k + 1 + (flats (ts.take i)).length < n := by
    have := congrArg List.length hr'
    rw [List.length_drop, List.length_append, hl] at this
    have := flat_pos t
    omega
  obtain ⟨_, y, e, _, hy, _, hc, _⟩ := h.at_ hp
  injection e with e; subst e
  rw [root_at hr'] at hy
  injection hy with hy; subst hy
  exact ⟨_, hp, plT_at ht, hc⟩
theorem place_at {w : World} {A : Option Addr} {m k i p : Nat} {ts : List FTr} (h : RdI w A m ((plT (k + 1) ts).map Int.ofNat)) (hp : (plT (k + 1) ts)[i]? = some p) (hi : i < m) : ∃ ad, A = some ad ∧ w.cell? (ad.add i) = some (.int .i64 p) := by
  obtain ⟨ad, x, e, _, hx, hc⟩ := h.at_ hi
  rw [List.getElem?_map, hp] at hx
  injection hx with hx; subst hx
  exact ⟨ad, e, hc⟩
theorem all_ar {a : Int} : ∀ us : List FTr, decide (us.map ar = List.replicate us.length a) = us.all fun u => decide (ar u = a)
  | [] => rfl
  | u :: us => by
    have ih := all_ar (a := a) us
    rw [List.map_cons, List.length_cons, List.replicate_succ, List.all_cons, ← ih]
    by_cases h : ar u = a
    · simp [h]
    · simp [h]
noncomputable def wholeF (f : List Nd3) : Bool := @decide (IsF f) (Classical.propDecidable _)
theorem wholeF_t {f : List Nd3} : wholeF f = true ↔ IsF f := by unfold wholeF; exact @decide_eq_true_iff _ (Classical.propDecidable _)
theorem wholeF_f {f : List Nd3} : wholeF f = false ↔ ¬ IsF f := by unfold wholeF; exact @decide_eq_false_iff_not _ (Classical.propDecidable _)
set_option maxHeartbeats 4000000 in
set_option maxRecDepth 100000 in
theorem l11Fits_c (A : Option Addr) (n cp : Nat) (f : List Nd3) (k : Nat) (t0 : FTr) (r : List Nd3) (q : Bool) (w : World) (h : Rd3 w A n f) (hn : n ≤ 1000000000) (hf : f.drop k = flat t0 ++ r) (ho : okS t0 = true) (hq : fitT t0 = q) :
    Calls Tryz.prog 117 #[.slice A n cp, .int .i64 k] w fun e w' => e = .returned (.bool q) ∧ Below w.heap.size w w' := by
  obtain ⟨x, ts⟩ := t0
  have hL := h.len
  have hkl := congrArg List.length hf
  rw [List.length_drop, List.length_append, hL, flat_mk, List.length_cons] at hkl
  have hroot : f[k]? = some x := root_at hf
  have hkn : k < n := by omega
  obtain ⟨ad, x', rfl, hab, hx, hc0, hc1, hc2⟩ := h.at_ hkn
  rw [hroot] at hx
  injection hx with hx; subst hx
  obtain ⟨ho1, ho2, ho3⟩ := okS_iff.1 ho
  have hbd := nodeF_bd ho1
  have hm5 := manyF_le x ho1
  have HF := Lib.hid hf; have HO := Lib.hid ho; have H := Lib.hid h
  obtain ⟨kk, a, i⟩ := x
  simp only at hc0 hc1 hc2 hbd
  have hfit : decide (ts.map ar = folF (kk, a, i)) = q := hq
  have K0 := Lib.hid (show ∀ (w2 : World), Below (w.alloc (.cells #[.int .i64 kk, .int .i64 a, .int .i64 i] 77)).heap.size (w.alloc (.cells #[.int .i64 kk, .int .i64 a, .int .i64 i] 77)) w2 → w2.cell? ⟨w.heap.size, 0, none⟩ = some (i64 kk) ∧ w2.cell? ⟨w.heap.size, 1, none⟩ = some (i64 a) ∧ w2.cell? ⟨w.heap.size, 2, none⟩ = some (i64 i) from fun w2 hb => ⟨keepc hb (new_cell _ _ _ 0), keepc hb (new_cell _ _ _ 1), keepc hb (new_cell _ _ _ 2)⟩)
  clear h hf ho ho1 ho3 hroot hq hkl
  unfold folF at hfit
  have ho2 : ts.length = (if kk = 3 then i :: List.replicate i.toNat a else if kk = 4 then [a - 1, a + 1] else if kk = 5 then [a + 1] else []).length := ho2
  simp only at hfit
  by_cases k3 : kk = 3
  · subst k3
    rw [if_pos rfl] at hfit ho2
    match ts, ho2, HF, HO, hfit with
    | t :: us, ho2, HF, HO, hfit =>
    rw [List.length_cons, List.length_cons, List.length_replicate] at ho2
    have hul : us.length = i.toNat := by omega
    have HQ := Lib.hid (show (decide (ar t = i) && us.all fun u => decide (ar u = a)) = q by
      rw [← all_ar, hul, ← hfit, List.map_cons]
      by_cases h1 : ar t = i
      · simp [h1]
      · simp [h1])
    obtain ⟨m, hm⟩ : ∃ m, (t :: us).length = m := ⟨_, rfl⟩
    have HLN := Lib.hid hm
    have hm2 : (m : Int) = i + 1 := by rw [← hm, List.length_cons]; omega
    clear hfit hm
    obtain ⟨b, hb⟩ : ∃ b, ar t = b := ⟨_, rfl⟩
    go_enter Tryz.func117, Tryz.ntmps117
    go_wp2_with (first | (go_at_call 162; refine (l11Parts_c (some ad) n cp f k _ _ r _ (H.out.alloc _) hn HF.out HO.out _ HLN.out).mono ?_; rintro e w2 ⟨A2, c2, rfl, hA2, hb2⟩; have RA := Lib.hid hA2; have E2 := Lib.hid hb2; obtain ⟨y0, y1, y2⟩ := K0.out _ hb2; have BB := Lib.hid ((below_size.alloc (Nat.le_refl _) _).trans (hb2.mono (by simp))); have RD := Lib.hid ((H.out.alloc _).below hb2); clear hA2 hb2))
    obtain ⟨p0, hp0, hpl0, hpc0⟩ := part_ar RD.out HF.out (i := 0) (t := t) rfl
    obtain ⟨pd, rfl, hpd⟩ := place_at RA.out hpl0 (by omega)
    rw [addrZf] at hpd
    rw [hb] at hpc0 HQ
    by_cases hbi : b = i
    · have gb : (b != i) = false := by simpa using hbi
      have HQ' := Lib.hid (show (us.all fun u => decide (ar u = a)) = q by rw [← HQ.out]; simp [hbi])
      clear HQ hpl0
      go_quiet (fail)
      go_wp2_with fail
      go_loopw [7] (fun jv wr => ∃ j : Nat, 1 ≤ j ∧ j ≤ m ∧ jv = .int .i64 j ∧ Hid (((t :: us).drop j).all (fun u => decide (ar u = a)) = q) ∧ Qt w2 wr) (fun jv _ => m - (intOf jv).toNat)
      case atStart => exact ⟨1, by omega, by omega, rfl, HQ'.out, ⟨_, rfl⟩⟩
      case round =>
        obtain ⟨j, hj1, hj, rfl, hr, ⟨mm, rfl⟩⟩ := hrel
        by_cases hlt : j < m
        · obtain ⟨u, hu⟩ : ∃ u, (t :: us)[j]? = some u := ⟨_, List.getElem?_eq_getElem (by rw [HLN.out]; exact hlt)⟩
          obtain ⟨p, hp, hpl, hpc⟩ := part_ar RD.out HF.out hu
          obtain ⟨pe, e, hpe⟩ := place_at RA.out hpl hlt
          injection e with e; subst e
          have HS := Lib.hid (show (decide (ar u = a) && ((t :: us).drop (j + 1)).all fun u => decide (ar u = a)) = q by rw [← hr.out, drop_at hu, List.all_cons])
          obtain ⟨c, hc⟩ : ∃ c, ar u = c := ⟨_, rfl⟩
          rw [hc] at hpc HS
          clear hr hu hpl hc
          by_cases hca : c = a
          · have gc : (c != a) = false := by simpa using hca
            have HG := Lib.hid (show ((t :: us).drop (j + 1)).all (fun u => decide (ar u = a)) = q by rw [← HS.out]; simp [hca])
            clear HS
            go_wp2_with fail
            go_quiet (fail)
            go_wp2_with fail
            go_roundw
            case rel => exact ⟨j + 1, by omega, by omega, by go_num, HG.out, (by first | exact Qt.refl _ | exact ⟨_, rfl⟩ | exact Qt.drewN ⟨_, rfl⟩ _)⟩
            case measure => simp [intOf]; omega
          · have gc : (c != a) = true := by simpa using hca
            have HG := Lib.hid (show false = q by rw [← HS.out]; simp [hca])
            clear HS
            go_wp2_with fail
            go_quiet (fail)
            go_wp2_with fail
            go_ret
            exact ⟨by rw [← HG.out]; rfl, below_drewN (below_drewN BB.out mm) _⟩
        · have HG := Lib.hid (show true = q by rw [← hr.out, List.drop_eq_nil_of_le (by rw [HLN.out]; omega)]; rfl)
          clear hr
          go_wp2_with fail
          go_ret
          exact ⟨by rw [← HG.out]; rfl, below_drewN BB.out _⟩
    · have gb : (b != i) = true := by simpa using hbi
      have HG := Lib.hid (show false = q by rw [← HQ.out]; simp [hbi])
      clear HQ hpl0
      go_quiet (fail)
      go_wp2_with fail
      go_ret
      exact ⟨by rw [← HG.out]; rfl, below_drewN BB.out _⟩
  have g3 : (kk == 3) = false := by simpa using k3
  by_cases k4 : kk = 4
  · subst k4
    rw [if_neg (by decide), if_pos rfl] at hfit ho2
    match ts, ho2, HF, HO, hfit with
    | [t, u], ho2, HF, HO, hfit =>
    have HLN := Lib.hid (show [t, u].length = 2 from rfl)
    clear g3
    obtain ⟨b, hb⟩ : ∃ b, ar t = b := ⟨_, rfl⟩
    obtain ⟨c, hc⟩ : ∃ c, ar u = c := ⟨_, rfl⟩
    have HQ := Lib.hid (show ((b == a - 1) && (c == a + 1)) = q by
      rw [← hfit, List.map_cons, List.map_cons, List.map_nil, hb, hc]
      by_cases h1 : b = a - 1 <;> by_cases h2 : c = a + 1 <;> simp [h1, h2])
    clear hfit
    obtain ⟨u1, hu1⟩ : ∃ u1, (b == a - 1) = u1 := ⟨_, rfl⟩
    obtain ⟨u2, hu2⟩ : ∃ u2, (c == a + 1) = u2 := ⟨_, rfl⟩
    rw [hu1, hu2] at HQ
    cases u1 <;> cases u2
    all_goals
      have HG := HQ
      clear HQ
      go_enter Tryz.func117, Tryz.ntmps117
      go_wp2_with (first | (go_at_call 162; refine (l11Parts_c (some ad) n cp f k _ _ r _ (H.out.alloc _) hn HF.out HO.out _ HLN.out).mono ?_; rintro e w2 ⟨A2, c2, rfl, hA2, hb2⟩; have RA := Lib.hid hA2; have E2 := Lib.hid hb2; obtain ⟨y0, y1, y2⟩ := K0.out _ hb2; have BB := Lib.hid ((below_size.alloc (Nat.le_refl _) _).trans (hb2.mono (by simp))); have RD := Lib.hid ((H.out.alloc _).below hb2); clear hA2 hb2))
      obtain ⟨p0, hp0, hpl0, hpc0⟩ := part_ar RD.out HF.out (i := 0) (t := t) rfl
      obtain ⟨p1, hp1, hpl1, hpc1⟩ := part_ar RD.out HF.out (i := 1) (t := u) rfl
      obtain ⟨pd, rfl, hpd⟩ := place_at RA.out hpl0 (by omega)
      obtain ⟨pe, e, hpe⟩ := place_at RA.out hpl1 (by omega)
      injection e with e; subst e
      have hpe' := hpe
      rw [addr1f] at hpe'
      rw [addrZf] at hpd
      rw [hb] at hpc0
      rw [hc] at hpc1
      clear hpl0 hpl1
      go_quiet (fail)
      go_wp2_with fail
      go_ret
      exact ⟨by rw [← HG.out]; rfl, below_drewN BB.out _⟩
  have g4 : (kk == 4) = false := by simpa using k4
  by_cases k5 : kk = 5
  · subst k5
    rw [if_neg (by decide), if_neg (by decide), if_pos rfl] at hfit ho2
    match ts, ho2, HF, HO, hfit with
    | [t], ho2, HF, HO, hfit =>
    have HLN := Lib.hid (show [t].length = 1 from rfl)
    clear g3 g4
    obtain ⟨b, hb⟩ : ∃ b, ar t = b := ⟨_, rfl⟩
    have HQ := Lib.hid (show (b == a + 1) = q by
      rw [← hfit, List.map_cons, List.map_nil, hb]
      by_cases h1 : b = a + 1 <;> simp [h1])
    clear hfit
    obtain ⟨u1, hu1⟩ : ∃ u1, (b == a + 1) = u1 := ⟨_, rfl⟩
    rw [hu1] at HQ
    cases u1
    all_goals
      have HG := HQ
      clear HQ
      go_enter Tryz.func117, Tryz.ntmps117
      go_wp2_with (first | (go_at_call 162; refine (l11Parts_c (some ad) n cp f k _ _ r _ (H.out.alloc _) hn HF.out HO.out _ HLN.out).mono ?_; rintro e w2 ⟨A2, c2, rfl, hA2, hb2⟩; have RA := Lib.hid hA2; have E2 := Lib.hid hb2; obtain ⟨y0, y1, y2⟩ := K0.out _ hb2; have BB := Lib.hid ((below_size.alloc (Nat.le_refl _) _).trans (hb2.mono (by simp))); have RD := Lib.hid ((H.out.alloc _).below hb2); clear hA2 hb2))
      obtain ⟨p0, hp0, hpl0, hpc0⟩ := part_ar RD.out HF.out (i := 0) (t := t) rfl
      obtain ⟨pd, rfl, hpd⟩ := place_at RA.out hpl0 (by omega)
      rw [addrZf] at hpd
      rw [hb] at hpc0
      clear hpl0
      go_quiet (fail)
      go_wp2_with fail
      go_ret
      exact ⟨by rw [← HG.out]; rfl, below_drewN BB.out _⟩
  have g5 : (kk == 5) = false := by simpa using k5
  rw [if_neg k3, if_neg k4, if_neg k5] at hfit ho2
  have hts : ts = [] := List.length_eq_zero_iff.1 ho2
  subst hts
  have HLN := Lib.hid (show ([] : List FTr).length = 0 from rfl)
  have HG := Lib.hid (show true = q from hfit)
  clear hfit k3 k4 k5
  go_enter Tryz.func117, Tryz.ntmps117
  go_wp2_with (first | (go_at_call 162; refine (l11Parts_c (some ad) n cp f k _ _ r _ (H.out.alloc _) hn HF.out HO.out _ HLN.out).mono ?_; rintro e w2 ⟨A2, c2, rfl, hA2, hb2⟩; have RA := Lib.hid hA2; have E2 := Lib.hid hb2; obtain ⟨y0, y1, y2⟩ := K0.out _ hb2; have BB := Lib.hid ((below_size.alloc (Nat.le_refl _) _).trans (hb2.mono (by simp))); have RD := Lib.hid ((H.out.alloc _).below hb2); clear hA2 hb2))
  go_ret
  exact ⟨by rw [← HG.out]; rfl, BB.out⟩
set_option maxHeartbeats 2000000 in
set_option maxRecDepth 100000 in
theorem l11Whole_c (A : Option Addr) (n cp : Nat) (f : List Nd3) (q : Bool) (w : World) (h : Rd3 w A n f) (hn : n ≤ 1000000000) (hq : wholeF f = q) :
    Calls Tryz.prog 74 #[.slice A n cp] w fun e w' => e = .returned (.bool q) ∧ Below w.heap.size w w' := by
  have hL := h.len
  have HL := Lib.hid hL; have H := Lib.hid h; have HQ := Lib.hid hq
  clear h hq
  by_cases hn0 : n = 0
  · subst hn0
    have hf : f = [] := List.length_eq_zero_iff.1 hL
    subst hf
    have HG := Lib.hid (show false = q by
      rw [← HQ.out]; symm; rw [wholeF_f]
      rintro ⟨t, ht, e⟩
      have := flat_pos t; rw [← e] at this; simp at this)
    go_enter Tryz.func74, Tryz.ntmps74
    go_wp2_with fail
    go_ret
    exact ⟨by rw [← HG.out]; rfl, below_size⟩
  have e0 : ((n : Int) == 0) = false := by simp; omega
  obtain ⟨Z, hZ⟩ : ∃ Z, (nsE (f.drop 0) 1).map (0 + ·) = Z := ⟨_, rfl⟩
  have HZ := Lib.hid hZ
  cases Z with
  | none =>
    have HG := Lib.hid (show false = q by
      rw [← HQ.out]; symm; rw [wholeF_f]
      rintro ⟨t, ht, e⟩
      rw [e] at hZ
      have := nsE_at (f := flat t) (k := 0) (r := []) (by simp) (okT_okS _ ht)
      rw [this] at hZ; cases hZ)
    clear hZ
    go_enter Tryz.func74, Tryz.ntmps74
    go_wp2_with (first | (go_at_call 116; refine (l11End_c _ n cp f 0 none _ H.out hn (by omega) HZ.out).mono ?_; rintro e w4 ⟨⟨u4, rfl⟩, ⟨m4, rfl⟩⟩))
    go_ret
    exact ⟨by rw [← HG.out]; rfl, below_drewN below_size _⟩
  | some z =>
    obtain ⟨p, hp, hpz⟩ := Option.map_eq_some_iff.1 hZ
    obtain ⟨ts, r, hl1, hl2, hl3, hl4⟩ := nsE_tree hp
    obtain ⟨t, rfl⟩ : ∃ t, ts = [t] := by
      match ts, hl1 with
      | [t], _ => exact ⟨t, rfl⟩
    rw [List.drop_zero, flats_cons, flats_nil, List.append_nil] at hl4
    rw [flats_cons, flats_nil, List.append_nil] at hl3
    have hok : okS t = true := hl2 t (by simp)
    have hzl : (flat t).length = z := by omega
    by_cases hzn : z = n
    · have hr : r = [] := by
        have := congrArg List.length hl4
        rw [List.length_append, hL, hzl] at this
        exact List.length_eq_zero_iff.1 (by omega)
      subst hr
      rw [List.append_nil] at hl4
      have HT := Lib.hid (show ∀ k, k < n → ∃ s r, (subsT t)[k]? = some s ∧ okS s = true ∧ f.drop k = flat s ++ r by
        intro k hk
        have hk' : k < (subsT t).length := by rw [subsT_len, hzl, hzn]; exact hk
        obtain ⟨r, hr⟩ := subsT_at t k _ (List.getElem?_eq_getElem hk')
        exact ⟨_, r, List.getElem?_eq_getElem hk', okS_subs t hok _ (List.getElem_mem hk'), by rw [hl4]; exact hr⟩)
      have HG := Lib.hid (show ((subsT t).drop 0).all fitT = q by
        rw [← HQ.out, List.drop_zero]
        cases hb : (subsT t).all fitT
        · symm; rw [wholeF_f]
          rintro ⟨t', ht', e⟩
          rw [hl4] at e
          have := flat_inj t t' [] [] hok (okT_okS _ ht') (by rw [List.append_nil, List.append_nil]; exact e)
          rw [← this.1] at ht'
          have h2 := ((okT_subs t).1 ht').2
          rw [List.all_eq_true.2 h2] at hb; cases hb
        · symm; rw [wholeF_t]
          exact ⟨t, (okT_subs t).2 ⟨hok, fun s hs => List.all_eq_true.1 hb s hs⟩, hl4⟩)
      have HSL := Lib.hid (show (subsT t).length = n by rw [subsT_len, hzl, hzn])
      have ez : ((z : Int) != (n : Int)) = false := by simp; omega
      clear hZ hp hpz hl1 hl2 hl3 hl4 HQ hL
      go_enter Tryz.func74, Tryz.ntmps74
      go_wp2_with (first | (go_at_call 116; refine (l11End_c _ n cp f 0 (some z) _ H.out hn (by omega) HZ.out).mono ?_; rintro e w4 ⟨he, ⟨m4, rfl⟩⟩; simp only at he; subst he))
      go_loopw [5] (fun jv wr => ∃ k : Nat, k ≤ n ∧ jv = .int .i64 k ∧ Hid (((subsT t).drop k).all fitT = q) ∧ Below w.heap.size w wr) (fun jv _ => n - (intOf jv).toNat)
      case atStart => exact ⟨0, by omega, rfl, HG.out, below_drewN below_size _⟩
      case round =>
        obtain ⟨k, hk, rfl, hr, hb⟩ := hrel
        have HB := Lib.hid hb
        by_cases hlt : k < n
        · obtain ⟨s, r, hs, hso, hsf⟩ := HT.out k hlt
          obtain ⟨o, ho⟩ : ∃ o, fitT s = o := ⟨_, rfl⟩
          have HS := Lib.hid (show (o && ((subsT t).drop (k + 1)).all fitT) = q by rw [← hr.out, drop_at hs, List.all_cons, ho])
          have HSO := Lib.hid hso; have HSF := Lib.hid hsf; have HO := Lib.hid ho
          clear hr hs hso hsf ho hb
          cases o
          · have HX := Lib.hid (show false = q from HS.out)
            go_wp2_with (first | (go_at_call 117; refine (l11Fits_c _ n cp f k s r false _ (H.out.below HB.out) hn HSF.out HSO.out HO.out).mono ?_; rintro e w5 ⟨rfl, hb5⟩))
            go_ret
            exact ⟨by rw [← HX.out]; rfl, below_chain HB.out HB.out.size hb5⟩
          · have HX := Lib.hid (show ((subsT t).drop (k + 1)).all fitT = q from HS.out)
            go_wp2_with (first | (go_at_call 117; refine (l11Fits_c _ n cp f k s r true _ (H.out.below HB.out) hn HSF.out HSO.out HO.out).mono ?_; rintro e w5 ⟨rfl, hb5⟩))
            go_roundw
            case rel => exact ⟨k + 1, by omega, by go_num, HX.out, below_chain HB.out HB.out.size hb5⟩
            case measure => simp [intOf]; omega
        · have HX := Lib.hid (show true = q by rw [← hr.out, List.drop_eq_nil_of_le (by rw [HSL.out]; omega)]; rfl)
          clear hr hb
          go_wp2_with fail
          go_ret
          exact ⟨by rw [← HX.out]; rfl, HB.out⟩
    · have ez : ((z : Int) != (n : Int)) = true := by simp; omega
      have HG := Lib.hid (show false = q by
        rw [← HQ.out]; symm; rw [wholeF_f]
        rintro ⟨t', ht', e⟩
        rw [hl4] at e
        have := flat_inj t t' r [] hok (okT_okS _ ht') (by rw [List.append_nil]; exact e)
        rw [this.2, List.append_nil] at hl4
        exact hzn (by rw [← hzl, ← hl4, hL]))
      clear hZ hp hpz hl1 hl2 hl3 hl4 HQ hL
      go_enter Tryz.func74, Tryz.ntmps74
      go_wp2_with (first | (go_at_call 116; refine (l11End_c _ n cp f 0 (some z) _ H.out hn (by omega) HZ.out).mono ?_; rintro e w4 ⟨he, ⟨m4, rfl⟩⟩; simp only at he; subst he))
      go_ret
      exact ⟨by rw [← HG.out]; rfl, below_drewN below_size _⟩
theorem l11Is_c (A : Option Addr) (n cp : Nat) (f : List Nd3) (q : Bool) (w : World) (h : Rd3 w A n f) (hn : n ≤ 1000000000) (hq : validF f = q) :
    Calls Tryz.prog 41 #[.slice A n cp] w fun e w' => e = .returned (.bool q) ∧ Below w.heap.size w w' := by
  have hL := h.len
  have HQ := Lib.hid (show (decide ((n : Int) ≤ 60) && wholeF f) = q by
    rw [← hq]
    cases hb : validF f
    · cases hw : wholeF f
      · simp
      · by_cases h6 : n ≤ 60
        · rw [(validF_iff (f := f)).2 ⟨by omega, wholeF_t.1 hw⟩] at hb; cases hb
        · simp; omega
    · obtain ⟨h1, h2⟩ := validF_iff.1 hb
      rw [wholeF_t.2 h2]; simp; omega)
  have H := Lib.hid h
  clear h hq
  by_cases h6 : (n : Int) ≤ 60
  · have e6 : decide ((n : Int) ≤ 60) = true := decide_eq_true h6
    rw [e6, Bool.true_and] at HQ
    go_enter Tryz.func41, Tryz.ntmps41
    go_wp2_with (first | (go_at_call 74; refine (l11Whole_c _ n cp f q _ H.out hn HQ.out).mono ?_; rintro e w5 ⟨rfl, hb5⟩))
    go_ret
    exact ⟨rfl, hb5⟩
  · have e6 : decide ((n : Int) ≤ 60) = false := decide_eq_false h6
    rw [e6, Bool.false_and] at HQ
    go_enter Tryz.func41, Tryz.ntmps41
    go_wp2_with fail
    go_ret
    exact ⟨by rw [← HQ.out]; rfl, below_size⟩
end Go.Proofs.YtebjpmmgdkepjaaGreatDoor
/-
  Functions as terms: the reference's successor, arguments and numbers of numerals.
-/
namespace Go.Proofs.YtebjpmmgdkepjaaGreatDoor
open Go.RowKit

/-- arguments of a function -/
def argsB (ar : Int) (ys : List Int) : Bool := decide ((ys.length : Int) = ar) && allB 0 150 ys
/-- the number of which a term is the numeral, or -1 -/
def nvL (t : LT) : Int := if inB (((t.length : Int) - 3).tdiv 2) 0 150 = true ∧ t = numLm (((t.length : Int) - 3).tdiv 2).toNat then ((t.length : Int) - 3).tdiv 2 else -1
theorem l18Next_c (w : World) : Calls Tryz.prog 119 #[] w (TmOut sucLm 10 w) := by
  have HC := Lib.hid (l12Read_suc w)
  rw [show bs sucTx = ⟨#[94, 94, 94, 40, 49, 32, 40, 40, 50, 32, 49, 41, 32, 48, 41, 41]⟩ from rfl] at HC
  go_enter Tryz.func119, Tryz.ntmps119
  go_wp2_with fail
  refine HC.out.mono ?_
  rintro e w1 ⟨A, c, rfl, hl, hw, hc, hb⟩
  have W := Lib.hid hw; have B := Lib.hid hb; have C := Lib.hid hc
  clear hw hb hl hc
  go_wp2_with fail
  go_ret
  exact ⟨A, c, rfl, rfl, W.out, C.out, B.out⟩
set_option maxHeartbeats 1000000 in
theorem l18Args_c (ad : Addr) (n cp : Nat) (f : List Nd3) (x : Nd3) (G : Option Addr) (m mc : Nat) (ys : List Int) (q : Bool) (w : World) (h : Rd3 w (some ad) n f) (hx : f[0]? = some x) (hG : RdI w G m ys) (hm : m ≤ 1000000000) (hq : argsB x.2.1 ys = q) :
    Calls Tryz.prog 43 #[.slice (some ad) n cp, .slice G m mc] w fun e w' => e = .returned (.bool q) ∧ w = w' := by
  have hl := h.len
  have hpos : 0 < n := by rw [← hl]; have := (List.getElem?_eq_some_iff.1 hx).1; exact this
  obtain ⟨ad', x', e, _, hx', hc0, hc1, hc2⟩ := h.at_ (k := 0) hpos
  injection e with e; subst e
  rw [hx] at hx'; injection hx' with hx'; subst hx'
  rw [Nat.zero_mul, addrZf] at hc0 hc1 hc2
  have HL := Lib.hid hG.len
  have HG := Lib.hid hG
  have hq2 : (decide ((m : Int) = x.2.1) && allB 0 150 ys) = q := by rw [← hq, argsB, hG.len]
  have HQ := Lib.hid hq2
  obtain ⟨kk, a, ii⟩ := x
  simp only at hc0 hc1 hc2 HQ
  clear h hx hG hq hq2 hl
  by_cases ha : (m : Int) = a
  · have g0 : ((m : Int) != a) = false := by simp [ha]
    have HA := Lib.hid (show allB 0 150 ys = q by rw [← HQ.out, decide_eq_true ha, Bool.true_and])
    clear ha
    go_enter Tryz.func43, Tryz.ntmps43
    go_wp2_with fail
    go_loop [5] (fun iv => ∃ k : Nat, k ≤ m ∧ iv = .int .i64 k ∧ Hid (allB 0 150 ys = allB 0 150 (ys.drop k))) (fun iv => m - (intOf iv).toNat)
    case atStart => exact ⟨0, by omega, rfl, rfl⟩
    case round =>
      obtain ⟨k, hk, rfl, hr⟩ := hrel
      by_cases hlt : k < m
      · obtain ⟨pd, y, rfl, _, hy, hcy⟩ := HG.out.at_ hlt
        have Hy := Lib.hid hy
        clear hy
        cases hin : inB y 0 150
        · have HE := Lib.hid (show false = q by rw [← HA.out, hr.out, drop_at Hy.out, allB, hin]; rfl)
          clear hr
          go_wp2_with fail
          refine (l00In_b _ _ _ _ hin _).mono ?_
          rintro e w' ⟨rfl, rfl⟩
          go_wp2_with fail
          go_ret
          exact ⟨by rw [← HE.out]; rfl, rfl⟩
        · have HE := Lib.hid (show allB 0 150 ys = allB 0 150 (ys.drop (k + 1)) by rw [hr.out, drop_at Hy.out, allB, hin]; rfl)
          clear hr
          go_wp2_with fail
          refine (l00In_b _ _ _ _ hin _).mono ?_
          rintro e w' ⟨rfl, rfl⟩
          go_wp2_with fail
          go_round
          case rel => exact ⟨k + 1, by omega, by go_num, HE.out⟩
          case measure => simp [intOf]; omega
      · have HE := Lib.hid (show true = q by rw [← HA.out, hr.out, List.drop_eq_nil_of_le (by rw [HL.out]; omega)]; rfl)
        clear hr
        go_wp2_with fail
        go_ret
        exact ⟨by rw [← HE.out]; rfl, rfl⟩
  · have g0 : ((m : Int) != a) = true := by simp [ha]
    have HE := Lib.hid (show false = q by rw [← HQ.out, decide_eq_false ha, Bool.false_and])
    clear ha
    go_enter Tryz.func43, Tryz.ntmps43
    go_wp2_with fail
    go_ret
    exact ⟨by rw [← HE.out]; rfl, rfl⟩
end Go.Proofs.YtebjpmmgdkepjaaGreatDoor
/-
  Evaluation of functions by lambda terms and by combinator terms, plain. Nothing of the program.
-/
namespace Go.Proofs.YtebjpmmgdkepjaaGreatDoor
open Go.RowKit
open FTr

def numsL (ys : List Int) : List LT := ys.map fun y => numLm y.toNat
/-- the term of a function, applied to numerals, or none if it is too long -/
def apO (t : FTr) (ys : List Int) : Option LT := match trmO t with
  | none => none
  | some u => if validL (appLm u (numsL ys)) = true then some (appLm u (numsL ys)) else none
theorem apO_no {t : FTr} {ys : List Int} (h : trmO t = none) : apO t ys = none := by rw [apO, h]
theorem apO_yes {t : FTr} {ys : List Int} {u : LT} (h : trmO t = some u) : apO t ys = if validL (appLm u (numsL ys)) = true then some (appLm u (numsL ys)) else none := by rw [apO, h]
theorem apO_valid {t : FTr} {ys : List Int} {u : LT} (h : apO t ys = some u) : validL u = true := by
  rw [apO] at h
  split at h
  · cases h
  · split at h
    · rename_i hv; injection h with h; subst h; exact hv
    · cases h
theorem numsL_len (ys : List Int) : (numsL ys).length = ys.length := by rw [numsL, List.length_map]
theorem numsL_flat {ys : List Int} (h : allB 0 150 ys = true) : (numsL ys).flatten.length ≤ ys.length * 303 := by
  have h1 := flat_bd (L := numsL ys) (b := 303) fun p hp => by
    obtain ⟨y, hy, rfl⟩ := List.mem_map.1 hp
    rw [numLm_len]
    have := allB_mem h y hy
    omega
  rwa [numsL_len] at h1
/-- what is answered behind the run -/
def lamA : Option (LT × Nat × Bool) → Int × Int × Int
  | none => (0, 0, 5)
  | some (v, k, q) => if q = true then (if nvL v < 0 then (0, 0, 3) else (nvL v, (k : Int), 0)) else (0, 0, 5)
def evT (t : FTr) (ys : List Int) (b : Int) : Int × Int × Int :=
  if (inB b 1 20000 && argsB (ar t) ys) = false then (0, 0, 2) else match apO t ys with
    | none => (0, 0, 5)
    | some u => lamA (runL b.toNat u 0)
/-- evaluation by lambda terms -/
noncomputable def evF (f : List Nd3) (ys : List Int) (b : Int) : Int × Int × Int := if validF f = true then evT (treeF f) ys b else (0, 0, 1)
theorem evF_bad {f : List Nd3} {ys : List Int} {b : Int} (h : validF f = false) : evF f ys b = (0, 0, 1) := by rw [evF, h]; rfl
theorem evF_flat {t : FTr} {ys : List Int} {b : Int} (h : okT t = true) (hl : (flat t).length ≤ 60) : evF (flat t) ys b = evT t ys b := by
  rw [evF, if_pos (validF_iff.2 ⟨hl, t, h, rfl⟩), treeF_flat h]
theorem evT_bad {t : FTr} {ys : List Int} {b : Int} (h : (inB b 1 20000 && argsB (ar t) ys) = false) : evT t ys b = (0, 0, 2) := by rw [evT, if_pos h]
theorem evT_no {t : FTr} {ys : List Int} {b : Int} (h : (inB b 1 20000 && argsB (ar t) ys) = true) (ha : apO t ys = none) : evT t ys b = (0, 0, 5) := by rw [evT, if_neg (by rw [h]; simp), ha]
theorem evT_yes {t : FTr} {ys : List Int} {b : Int} {u : LT} (h : (inB b 1 20000 && argsB (ar t) ys) = true) (ha : apO t ys = some u) : evT t ys b = lamA (runL b.toNat u 0) := by rw [evT, if_neg (by rw [h]; simp), ha]
end Go.Proofs.YtebjpmmgdkepjaaGreatDoor
/-
  Closed lambda terms as combinator terms in plain Lean: what they become, as a relation along the term. Nothing of the program.
-/
namespace Go.Proofs.YtebjpmmgdkepjaaGreatDoor
open Go.RowKit
open FTr

def absS (d : Nat) : Option LT → Option LT
  | none => none
  | some c => if (absC c.length (-1 - (d : Int)) c).length ≤ 400 then some (absC c.length (-1 - (d : Int)) c) else none
def appS2 : Option LT → Option LT → Option LT
  | none, _ => none
  | some _, none => none
  | some a, some b => if ((0, 0) :: (a ++ b)).length ≤ 400 then some ((0, 0) :: (a ++ b)) else none
/-- what a closed term becomes -/
inductive LcX : Nat → LT → Option LT → Prop
  | var {d : Nat} {i : Int} : 0 ≤ i → i < d → LcX d [(0, i)] (some [(4, i - (d : Int))])
  | abs {d : Nat} {t : LT} {o : Option LT} : LcX (d + 1) t o → LcX d ((1, 0) :: t) (absS d o)
  | app {d : Nat} {a b : LT} {o1 o2 : Option LT} : LcX d a o1 → LcX d b o2 → LcX d ((2, 0) :: (a ++ b)) (appS2 o1 o2)
theorem Clo.lcX {d : Nat} {t : LT} (h : Clo d t) : ∃ o, LcX d t o := by
  induction h with
  | var h1 h2 => exact ⟨_, .var h1 h2⟩
  | abs _ ih => obtain ⟨o, h⟩ := ih; exact ⟨_, .abs h⟩
  | app _ _ ih1 ih2 => obtain ⟨o, h⟩ := ih1; obtain ⟨o', h'⟩ := ih2; exact ⟨_, .app h h'⟩
theorem LcX.pos {d : Nat} {t : LT} {o : Option LT} (h : LcX d t o) : 1 ≤ t.length := by cases h <;> simp
theorem LcX.prog {d : Nat} {t : LT} {o : Option LT} (h : LcX d t o) : ∀ (r : LT) (f : Nat), t.length ≤ f → lcP f d (t ++ r) = o.map (·, r) := by
  induction h with
  | @var d i h1 h2 =>
    intro r f hf
    obtain ⟨f, rfl⟩ : ∃ g, f = g + 1 := ⟨f - 1, by simp at hf; omega⟩
    show lcP (f + 1) d ((0, i) :: r) = _
    rw [lcP, if_pos rfl]; rfl
  | @abs d t o _ ih =>
    intro r f hf
    obtain ⟨f, rfl⟩ : ∃ g, f = g + 1 := ⟨f - 1, by simp at hf; omega⟩
    show lcP (f + 1) d ((1, 0) :: (t ++ r)) = _
    rw [lcP, if_neg (by decide), if_pos rfl, ih r f (by simp at hf; omega)]
    cases o with
    | none => rfl
    | some c =>
      simp only [Option.map_some, absS]
      split <;> rfl
  | @app d a b o1 o2 _ _ ih1 ih2 =>
    intro r f hf
    obtain ⟨f, rfl⟩ : ∃ g, f = g + 1 := ⟨f - 1, by simp at hf; omega⟩
    have hf' : a.length ≤ f ∧ b.length ≤ f := by simp at hf; omega
    have e : ((2, 0) :: (a ++ b)) ++ r = (2, 0) :: (a ++ (b ++ r)) := by simp
    rw [e, lcP, if_neg (by decide), if_neg (by decide), ih1 (b ++ r) f hf'.1]
    cases o1 with
    | none => rfl
    | some c =>
      simp only [Option.map_some]
      rw [ih2 r f hf'.2]
      cases o2 with
      | none => rfl
      | some c' =>
        simp only [Option.map_some, appS2]
        split <;> rfl
theorem LcX.cw {d : Nat} {t : LT} {o : Option LT} (h : LcX d t o) : ∀ c, o = some c → Cw c ∧ c.length ≤ 400 ∧ ∀ x ∈ c, x.1 = 4 → -(d : Int) ≤ x.2 ∧ x.2 ≤ -1 := by
  induction h with
  | @var d i h1 h2 =>
    intro c hc
    injection hc with hc; subst hc
    refine ⟨.atom (.inr (.inr (.inr rfl))), by simp, fun x hx _ => ?_⟩
    rw [List.mem_singleton] at hx; subst hx
    simp only; omega
  | @abs d t o _ ih =>
    intro c' hc'
    cases o with
    | none => cases hc'
    | some c =>
      rw [absS] at hc'
      split at hc'
      · rename_i hl
        injection hc' with hc'; subst hc'
        obtain ⟨g1, g2, g3⟩ := ih c rfl
        have hk := absC_ok (k := -1 - (d : Int)) g1 c.length (Nat.le_refl _)
        refine ⟨hk.cw, hl, fun x hx h4 => ?_⟩
        have h5 := g3 x (hk.sub x hx h4) h4
        have h6 : x.2 ≠ -1 - (d : Int) := fun e => hk.no (by have h7 : ((4 : Int), -1 - (d : Int)) = x := Prod.ext h4.symm e.symm; rw [h7]; exact hx)
        omega
      · cases hc'
  | @app d a b o1 o2 _ _ ih1 ih2 =>
    intro u hu
    cases o1 with
    | none => cases hu
    | some c =>
      cases o2 with
      | none => cases hu
      | some c' =>
        rw [appS2] at hu
        split at hu
        · rename_i hl
          injection hu with hu; subst hu
          obtain ⟨g1, _, g3⟩ := ih1 c rfl
          obtain ⟨g1', _, g3'⟩ := ih2 c' rfl
          refine ⟨.app g1 g1', hl, fun x hx h4 => ?_⟩
          rcases List.mem_cons.1 hx with rfl | hx
          · cases h4
          · rcases List.mem_append.1 hx with hx | hx
            · exact g3 x hx h4
            · exact g3' x hx h4
        · cases hu
theorem LcX.zero {t : LT} {o : Option LT} (h : LcX 0 t o) : lcP t.length 0 t = o.map (·, []) ∧ ∀ c, o = some c → validC c = true ∧ c.map rnC = c := by
  refine ⟨by have := h.prog [] t.length (Nat.le_refl _); rwa [List.append_nil] at this, fun c hc => ?_⟩
  obtain ⟨g1, g2, g3⟩ := h.cw c hc
  refine ⟨?_, (List.map_congr_left fun x hx => ?_).trans (List.map_id c)⟩
  · rw [validC, g1.one, decide_eq_true rfl, Bool.and_true, Bool.and_eq_true]
    refine ⟨inB_of (by have := g1.pos; omega) (by omega), List.all_eq_true.2 fun x hx => ?_⟩
    rcases g1.elem x hx with ⟨k1, k2, k3⟩ | h4
    · obtain ⟨p, v⟩ := x
      simp only at k1 k2 k3
      subst k3
      have : p = 0 ∨ p = 1 ∨ p = 2 ∨ p = 3 := by omega
      rcases this with rfl | rfl | rfl | rfl <;> decide
    · have := g3 x hx h4; omega
  · unfold rnC
    split
    · rename_i h4; have := g3 x hx h4; omega
    · rfl
/-- the terms of functions are closed -/
theorem trmO_clo (t : FTr) : okT t = true → ∀ u, trmO t = some u → Clo 0 u := by
  refine FTr.ind (P := fun t => okT t = true → ∀ u, trmO t = some u → Clo 0 u) (fun x ts ih ho u hu => ?_) t
  have hO := okT_iff.1 ho
  cases hs : trmsO ts with
  | none => rw [trmO_no hs] at hu; cases hu
  | some ps =>
    rw [trmO_yes hs] at hu
    split at hu
    · injection hu with hu; subst hu
      have hall : ∀ {ts : List FTr} {ps : List LT}, trmsO ts = some ps → ts.map trmO = ps.map some := by
        intro ts
        induction ts with
        | nil => intro ps h; rw [trmsO_nil] at h; injection h with h; subst h; rfl
        | cons t ts ih =>
          intro ps h
          cases ht : trmO t with
          | none => rw [trmsO_no ht] at h; cases h
          | some v =>
            rw [trmsO_yes ht] at h
            cases h2 : trmsO ts with
            | none => rw [h2] at h; cases h
            | some qs => rw [h2] at h; injection h with h; subst h; rw [List.map_cons, ht, ih h2]; rfl
      have hm := hall hs
      have hl : ps.length = manyF x := by
        have := congrArg List.length hm
        rw [List.length_map, List.length_map] at this
        rw [← this, manyF, ← hO.ars, List.length_map]
      refine Clo.out hO.node hl fun p hp => ?_
      have h1 : some p ∈ ps.map some := List.mem_map_of_mem hp
      rw [← hm] at h1
      obtain ⟨t, ht, he⟩ := List.mem_map.1 h1
      exact ih t ht (hO.kids t ht) p he
    · cases hu
theorem apO_clo {t : FTr} {ys : List Int} {u : LT} (ho : okT t = true) (h : apO t ys = some u) : Clo 0 u := by
  rw [apO] at h
  split at h
  · cases h
  · rename_i v hv
    split at h
    · injection h with h; subst h
      refine Clo.apps (trmO_clo t ho _ hv) fun w hw => ?_
      obtain ⟨y, _, rfl⟩ := List.mem_map.1 hw
      exact Clo.num _
    · cases h
def ecA : Option LT → Nat → Int × Int × Int
  | none, _ => (0, 0, 5)
  | some c, b => nuN c b
/-- evaluation by combinator terms -/
def ecT (t : FTr) (ys : List Int) (b : Int) : Int × Int × Int :=
  if (inB b 1 20000 && argsB (ar t) ys) = false then (0, 0, 2) else match apO t ys with
    | none => (0, 0, 5)
    | some u => match lcP u.length 0 u with
      | none => (0, 0, 5)
      | some (c, _) => nuN c b.toNat
noncomputable def ecF (f : List Nd3) (ys : List Int) (b : Int) : Int × Int × Int := if validF f = true then ecT (treeF f) ys b else (0, 0, 1)
theorem ecF_bad {f : List Nd3} {ys : List Int} {b : Int} (h : validF f = false) : ecF f ys b = (0, 0, 1) := by rw [ecF, h]; rfl
theorem ecF_flat {t : FTr} {ys : List Int} {b : Int} (h : okT t = true) (hl : (flat t).length ≤ 60) : ecF (flat t) ys b = ecT t ys b := by
  rw [ecF, if_pos (validF_iff.2 ⟨hl, t, h, rfl⟩), treeF_flat h]
theorem ecT_bad {t : FTr} {ys : List Int} {b : Int} (h : (inB b 1 20000 && argsB (ar t) ys) = false) : ecT t ys b = (0, 0, 2) := by rw [ecT, if_pos h]
theorem ecT_no {t : FTr} {ys : List Int} {b : Int} (h : (inB b 1 20000 && argsB (ar t) ys) = true) (ha : apO t ys = none) : ecT t ys b = (0, 0, 5) := by rw [ecT, if_neg (by rw [h]; simp), ha]
theorem ecT_yes {t : FTr} {ys : List Int} {b : Int} {u : LT} {o : Option LT} (h : (inB b 1 20000 && argsB (ar t) ys) = true) (ha : apO t ys = some u) (hx : LcX 0 u o) : ecT t ys b = ecA o b.toNat := by
  rw [ecT, if_neg (by rw [h]; simp), ha]
  simp only
  rw [hx.zero.1]
  cases o <;> rfl
end Go.Proofs.YtebjpmmgdkepjaaGreatDoor
