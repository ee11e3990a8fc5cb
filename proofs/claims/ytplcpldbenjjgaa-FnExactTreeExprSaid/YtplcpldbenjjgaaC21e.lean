/-
  Contracts of chapter 21 (trees): HeadOf and TailOf of the reference.
-/
import Derived.Test.YtplcpldbenjjgaaPlainT
import Derived.Test.YtplcpldbenjjgaaApp
import Derived.Test.YtplcpldbenjjgaaC01
namespace Go.Proofs.Ytplcpldbenjjgaa
open Go.RowKit

theorem info_bool1 : (Try.prog.info? 4).map (fun i => (i.zero, i.size, i.bytes)) = some (some (.bool false), 1, 1) := by kernel_rfl
theorem Rd.cells {w : World} {ad : Addr} {n : Nat} {vs : List Value} (h : Rd w (some ad) n vs) (hn : 0 < n) (j : Nat) (v : Value) (hj : vs[j]? = some v) : w.cell? (ad.add j) = some v := by
  obtain ⟨ad', e, _, hc⟩ := h.2 hn
  injection e with e; subst e
  exact hc j v hj
theorem RdB.cells {w : World} {ad : Addr} {n : Nat} {xs : List Bool} (h : RdB w (some ad) n xs) (hn : 0 < n) (j : Nat) (v : Value) (hj : (xs.map Value.bool)[j]? = some v) : w.cell? (ad.add j) = some v := Rd.cells h hn j v hj
theorem oneCell_bools (xs : List Bool) : ∀ u ∈ xs.map Value.bool, u.oneCell' = true := by
  intro u hu
  obtain ⟨b, _, rfl⟩ := List.mem_map.1 hu
  rfl
theorem RdB.sub {w : World} {ad : Addr} {n : Nat} {xs : List Bool} (h : RdB w (some ad) n xs) (i j : Nat) (hij : i + j ≤ n) : RdB w (some (ad.add i)) j ((xs.drop i).take j) := by
  refine ⟨by have := h.len; simp; omega, fun hj => ?_⟩
  obtain ⟨ad', e, hb, hc⟩ := h.2 (by omega)
  injection e with e; subst e
  refine ⟨_, rfl, by rw [block_add]; exact hb, fun q v hq => ?_⟩
  rw [add_add]
  refine hc (i + q) v ?_
  rw [List.getElem?_map] at hq ⊢
  rw [List.getElem?_take, List.getElem?_drop] at hq
  split at hq
  · exact hq
  · cases hq

def endS (E : Int) (n : Nat) : Int := if 0 ≤ E then E else n
def endOk (E : Int) : Bool := decide (0 ≤ E)
theorem endS_t {E : Int} (h : 0 ≤ E) (n : Nat) : endS E n = E := if_pos h
theorem endS_f {E : Int} (h : ¬ 0 ≤ E) (n : Nat) : endS E n = n := if_neg h
theorem endOk_t {E : Int} (h : 0 ≤ E) : endOk E = true := decide_eq_true h
theorem endOk_f {E : Int} (h : ¬ 0 ≤ E) : endOk E = false := decide_eq_false h
set_option maxHeartbeats 1000000 in
theorem l21End_c (A : Option Addr) (n c k0 : Nat) (xs : List Bool) (E : Int) (w : World) (h : RdB w A n xs) (hn : n ≤ 1000000000) (hk : k0 ≤ n) (hE : endG fB 1 k0 (xs.drop k0) = E) :
    Calls Try.prog 126 #[.slice A n c, .int .i64 k0] w fun e w' => e = .returned (.tuple #[.int .i64 (endS E n), .bool (endOk E)]) ∧ w = w' := by
  have HL := Lib.hid h.len
  have H := Lib.hid h; clear h
  have HE := Lib.hid hE; clear hE
  go_enter Try.func126, Try.ntmps126
  go_wp2
  go_loop [1, 6] (fun kv mv => ∃ k m : Nat, k ≤ n ∧ m ≤ k + 1 ∧ kv = .int .i64 k ∧ mv = .int .i64 m ∧ Hid (E = endG fB m k (xs.drop k))) (fun kv _ => n - (intOf kv).toNat)
  case atStart => exact ⟨k0, 1, by omega, by omega, rfl, rfl, HE.out.symm⟩
  case round =>
    obtain ⟨k, m, hk, hm, rfl, rfl, hr⟩ := hrel
    by_cases hm0 : 0 < m
    · by_cases hlt : k < n
      · obtain ⟨ad, x, rfl, hab, hx, hc0⟩ := H.out.at_ hlt
        have HR := Lib.hid (show E = endG fB (m - 1 + fB x) (k + 1) (xs.drop (k + 1)) by
          obtain ⟨m', rfl⟩ : ∃ m', m = m' + 1 := ⟨m - 1, by omega⟩
          rw [hr.out, drop_at hx, endG]; rfl)
        have hkn : ((k : Int) == (n : Int)) = false := by simp; omega
        have hkn' : (k == n) = false := by simp; omega
        clear hx
        cases x
        · go_wp2
          go_round
          case rel => exact ⟨k + 1, m - 1, by omega, by omega, by go_num, by go_num, HR.out⟩
          case measure => simp [intOf]; omega
        · go_wp2
          go_round
          case rel => exact ⟨k + 1, m + 1, by omega, by omega, by go_num, by go_num, by rw [show m + 1 = m - 1 + fB true by simp [fB]; omega]; exact HR.out⟩
          case measure => simp [intOf]; omega
      · have HR := Lib.hid (show E = -1 by
          obtain ⟨m', rfl⟩ : ∃ m', m = m' + 1 := ⟨m - 1, by omega⟩
          rw [hr.out, List.drop_eq_nil_of_le (by rw [HL.out]; omega), endG])
        have HK := Lib.hid (show k = n by omega)
        have hkn : ((k : Int) == (n : Int)) = true := by simp; omega
        have hkn' : (k == n) = true := by simp; omega
        go_wp2
        go_ret2
        exact ⟨by rw [HR.out, HK.out]; rfl, rfl⟩
    · have HR := Lib.hid (show E = k by
        obtain rfl : m = 0 := by omega
        rw [hr.out, endG])
      go_wp2
      go_ret2
      exact ⟨by rw [HR.out, endS_t (by omega), endOk_t (by omega)]; rfl, rfl⟩
theorem endG_le {α : Type} (f : α → Nat) : ∀ (l : List α) (m k : Nat), endG f m k l ≤ ((k + l.length : Nat) : Int)
  | [], 0, k => by simp [endG]
  | [], m + 1, k => by rw [endG]; omega
  | x :: l, 0, k => by simp [endG]; omega
  | x :: l, m + 1, k => by rw [endG]; have := endG_le f l (m + f x) (k + 1); simp at this ⊢; omega
theorem l21Whole_c (A : Option Addr) (n c : Nat) (xs : List Bool) (w : World) (h : RdB w A n xs) (hn : n ≤ 1000000000) :
    Calls Try.prog 124 #[.slice A n c] w fun e w' => e = .returned (.bool (endG fB 1 0 xs == (n : Int))) ∧ w = w' := by
  obtain ⟨E, hE⟩ : ∃ E, endG fB 1 0 xs = E := ⟨_, rfl⟩
  have H := Lib.hid h; clear h
  rw [hE]
  by_cases h0 : 0 ≤ E
  · have hd : decide (0 ≤ E) = true := by simpa using h0
    go_enter Try.func124, Try.ntmps124
    go_wp2_with fail
    refine (l21End_c _ _ _ 0 xs E _ H.out hn (by omega) hE).mono ?_
    rintro e w' ⟨rfl, rfl⟩
    rw [endS_t h0, endOk_t h0]
    clear hE
    go_wp2_with fail
    go_ret
    exact ⟨rfl, rfl⟩
  · have hd : decide (0 ≤ E) = false := by simpa using h0
    have HR := Lib.hid (show (E == (n : Int)) = false by simp; omega)
    go_enter Try.func124, Try.ntmps124
    go_wp2_with fail
    refine (l21End_c _ _ _ 0 xs E _ H.out hn (by omega) hE).mono ?_
    rintro e w' ⟨rfl, rfl⟩
    rw [endS_f (by omega), endOk_f (by omega)]
    clear hE
    go_wp2_with fail
    go_ret
    exact ⟨by rw [HR.out]; rfl, rfl⟩
theorem l21Is_c (A : Option Addr) (n c : Nat) (xs : List Bool) (b : Bool) (w : World) (h : RdB w A n xs) (hn : n ≤ 1000000000) (hb : treeB xs = b) :
    Calls Try.prog 79 #[.slice A n c] w fun e w' => e = .returned (.bool b) ∧ w = w' := by
  have HL := Lib.hid h.len
  have HB := Lib.hid hb; clear hb
  by_cases h1 : n ≤ 2000
  · have g1 : decide ((n : Int) ≤ 2000) = true := by simp; omega
    have g2 : decide (n ≤ 2000) = true := by simp; omega
    have HR := Lib.hid (show (endG fB 1 0 xs == (n : Int)) = b by rw [← HB.out]; simp [treeB, HL.out, h1])
    go_enter Try.func79, Try.ntmps79
    go_wp2_with fail
    refine (l21Whole_c _ _ _ xs _ h hn).mono ?_
    rintro e w' ⟨rfl, rfl⟩
    rw [HR.out]
    go_wp2_with fail
    go_ret
    exact ⟨rfl, rfl⟩
  · have g1 : decide ((n : Int) ≤ 2000) = false := by simp; omega
    have g2 : decide (n ≤ 2000) = false := by simp; omega
    have HR := Lib.hid (show false = b by rw [← HB.out]; simp [treeB, HL.out, h1])
    go_enter Try.func79, Try.ntmps79
    go_wp2_with fail
    go_ret
    exact ⟨by rw [← HR.out]; rfl, rfl⟩
theorem l21Own_c (ad : Addr) (n c : Nat) (xs : List Bool) (w : World) (h : RdB w (some ad) n xs) (hn : n ≤ 1000000000) (h0 : 0 < n) :
    Calls Try.prog 127 #[.slice (some ad) n c] w fun e w' => ∃ A c', e = .returned (.slice A n c') ∧ Wr w' w.heap.size w'.heap.size A n (xs.map Value.bool) ∧ Below w.heap.size w w' := by
  have H := Lib.hid h; clear h
  go_enter Try.func127, Try.ntmps127
  go_wp2_with (at_builtin; refine wp_app (by rfl) _ _ 22 4 (.bool false) 1 1 (by rfl) Try.underlying22 info_bool1 rfl (by omega) w.heap.size (some ⟨w.heap.size, 0, none⟩) 0 0 [] (by rfl) (by exact Own.lit (Nat.le_refl _)) ad n c (xs.map Value.bool) (by rfl) h0 (by rw [Nat.mul_one]; exact H.out.1) (by exact (RdB.cells (H.out.alloc _) h0)) (by exact oneCell_bools xs) (by omega) (by omega) (by simp) ?_; intro g' cap w2 own2 hb2 hk2 hg2 hz2)
  have O2 := Lib.hid own2; have HB2 := Lib.hid hb2
  clear own2 hb2 hk2 hg2 hz2
  go_wp2_with fail
  go_ret
  refine ⟨_, _, rfl, ?_, (below_size.alloc (Nat.le_refl _) _).trans HB2.out⟩
  have := O2.out.wr
  rw [Nat.zero_add, List.nil_append] at this
  exact this
theorem l21Nil_c (w : World) : Calls Try.prog 125 #[] w fun e w' => e = .returned (.slice (some ⟨w.heap.size, 0, none⟩) 1 1) ∧ Wr w' w.heap.size w'.heap.size (some ⟨w.heap.size, 0, none⟩) 1 ([false].map Value.bool) ∧ Below w.heap.size w w' := by
  go_enter Try.func125, Try.ntmps125
  go_wp2_with fail
  go_ret
  exact ⟨rfl, (Blk.new w 4 #[.bool false]).wr (Nat.le_refl _) (by simp) rfl (by simp), below_size.alloc (Nat.le_refl _) _⟩
theorem flat_end (a b : Tr) : endG fB 1 1 ((flat (.node a b)).drop 1) = ((1 + szT a : Nat) : Int) := by
  rw [flat, List.drop_succ_cons, List.drop_zero, endG_flat a 0 1 (flat b)]; simp [endG]
set_option maxHeartbeats 1000000 in
theorem l21Head_c (A : Option Addr) (n c : Nat) (t : Tr) (w : World) (h : RdB w A n (flat t)) (hn : n ≤ 1000000000) (hnc : n ≤ c) :
    Calls Try.prog 80 #[.slice A n c] w fun e w' => ∃ A' c', e = .returned (.slice A' (szT (hdT t)) c') ∧ Wr w' w.heap.size w'.heap.size A' (szT (hdT t)) ((flat (hdT t)).map Value.bool) ∧ Below w.heap.size w w' := by
  have HL := Lib.hid (show szT t = n from h.len)
  have hp := szT_pos t
  have h0 : 0 < n := by have := HL.out; omega
  obtain ⟨ad, x, rfl, hab, hx, hc0⟩ := h.at_ h0
  have hc1 : w.cell? ad = some (.bool x) := by simpa [Addr.add] using hc0
  have H := Lib.hid h; clear h
  clear hp
  cases t with
  | nil =>
    have : x = false := by simpa [flat] using hx.symm
    subst this
    clear hx
    go_enter Try.func80, Try.ntmps80
    go_wp2_with fail
    refine (l21Nil_c _).mono ?_
    rintro e w1 ⟨rfl, hw, hb⟩
    have HW := Lib.hid hw; have HB := Lib.hid hb
    clear hw hb
    go_wp2_with fail
    go_ret
    exact ⟨_, _, rfl, HW.out, HB.out⟩
  | node a b =>
    have : x = true := by simpa [flat] using hx.symm
    subst this
    have hsz : 1 + szT a + szT b = n := by rw [← HL.out, szT_node]
    have hpa := szT_pos a; have hpb := szT_pos b
    have HS := Lib.hid hsz
    have HE := Lib.hid (flat_end a b)
    have l1 : 1 + szT a ≤ n := by omega
    have l2 : 1 + szT a < c := by omega
    have l3 : ¬ c = 1 + szT a := by omega
    have HD := Lib.hid (show RdB w (some (ad.add 1)) (szT a) (flat a) by
      have hs := H.out.sub 1 (szT a) (by omega)
      rwa [show ((flat (.node a b)).drop 1).take (szT a) = flat a by rw [flat]; simp [szT, Nat.add_comm 1]] at hs)
    clear hx hsz
    go_enter Try.func80, Try.ntmps80
    go_wp2_with fail
    refine (l21End_c _ n _ 1 (flat (.node a b)) _ _ H.out hn (by omega) HE.out).mono ?_
    rintro e w' ⟨rfl, rfl⟩
    rw [endS_t (by omega), endOk_t (by omega)]
    go_wp2_with fail
    have hnn : n - (1 + szT a) = szT b := by have := HS.out; omega
    try rw [hnn]
    refine (l21Own_c _ _ _ (flat a) _ HD.out (by omega) (by omega)).mono ?_
    rintro e w1 ⟨A', c', rfl, hw, hb⟩
    have HW := Lib.hid hw; have HB := Lib.hid hb
    clear hw hb hnn
    go_wp2_with fail
    go_ret
    exact ⟨_, _, rfl, HW.out, HB.out⟩
set_option maxHeartbeats 1000000 in
theorem l21Tail_c (A : Option Addr) (n c : Nat) (t : Tr) (w : World) (h : RdB w A n (flat t)) (hn : n ≤ 1000000000) (hnc : n ≤ c) :
    Calls Try.prog 83 #[.slice A n c] w fun e w' => ∃ A' c', e = .returned (.slice A' (szT (tlT t)) c') ∧ Wr w' w.heap.size w'.heap.size A' (szT (tlT t)) ((flat (tlT t)).map Value.bool) ∧ Below w.heap.size w w' := by
  have HL := Lib.hid (show szT t = n from h.len)
  have hp := szT_pos t
  have h0 : 0 < n := by have := HL.out; omega
  obtain ⟨ad, x, rfl, hab, hx, hc0⟩ := h.at_ h0
  have hc1 : w.cell? ad = some (.bool x) := by simpa [Addr.add] using hc0
  have H := Lib.hid h; clear h
  clear hp
  cases t with
  | nil =>
    have : x = false := by simpa [flat] using hx.symm
    subst this
    clear hx
    go_enter Try.func83, Try.ntmps83
    go_wp2_with fail
    refine (l21Nil_c _).mono ?_
    rintro e w1 ⟨rfl, hw, hb⟩
    have HW := Lib.hid hw; have HB := Lib.hid hb
    clear hw hb
    go_wp2_with fail
    go_ret
    exact ⟨_, _, rfl, HW.out, HB.out⟩
  | node a b =>
    have : x = true := by simpa [flat] using hx.symm
    subst this
    have hsz : 1 + szT a + szT b = n := by rw [← HL.out, szT_node]
    have hpa := szT_pos a; have hpb := szT_pos b
    have HS := Lib.hid hsz
    have HE := Lib.hid (flat_end a b)
    have l1 : 1 + szT a ≤ n := by omega
    have l2 : 1 + szT a < c := by omega
    have l3 : ¬ c = 1 + szT a := by omega
    have HD := Lib.hid (show RdB w (some (ad.add (1 + szT a))) (szT b) (flat b) by
      have hs := H.out.sub (1 + szT a) (szT b) (by omega)
      rwa [show ((flat (.node a b)).drop (1 + szT a)).take (szT b) = flat b by rw [flat]; simp [szT, Nat.add_comm 1]] at hs)
    clear hx hsz
    go_enter Try.func83, Try.ntmps83
    go_wp2_with fail
    refine (l21End_c _ n _ 1 (flat (.node a b)) _ _ H.out hn (by omega) HE.out).mono ?_
    rintro e w' ⟨rfl, rfl⟩
    rw [endS_t (by omega), endOk_t (by omega)]
    go_wp2_with fail
    have hnn : n - (1 + szT a) = szT b := by have := HS.out; omega
    try rw [hnn]
    refine (l21Own_c _ _ _ (flat b) _ HD.out (by omega) (by omega)).mono ?_
    rintro e w1 ⟨A', c', rfl, hw, hb⟩
    have HW := Lib.hid hw; have HB := Lib.hid hb
    clear hw hb hnn
    go_wp2_with fail
    go_ret
    exact ⟨_, _, rfl, HW.out, HB.out⟩
theorem sHeadOf_c (A : Option Addr) (n c : Nat) (xs : List Bool) (w : World) (h : RdB w A n xs) (hn : n ≤ 1000000000) (hnc : n ≤ c) :
    Calls Try.prog 22 #[.slice A n c] w fun e w' => ∃ A' n' c', e = .returned (.tuple #[.slice A' n' c', .int .i64 (headR xs).2]) ∧ Wr w' w.heap.size w'.heap.size A' n' ((headR xs).1.map Value.bool) ∧ n' ≤ 1000000 ∧ Below w.heap.size w w' := by
  cases hx : treeB xs
  · have HR := Lib.hid (show headR xs = ([], 1) by simp [headR, hx])
    go_enter Try.func22, Try.ntmps22
    go_wp2_with fail
    refine (l21Is_c _ _ _ xs _ _ h hn hx).mono ?_
    rintro e w' ⟨rfl, rfl⟩
    go_wp2_with fail
    go_ret2
    rw [HR.out]
    exact ⟨_, _, _, rfl, Wr.nil, by omega, below_size⟩
  · obtain ⟨t, ht, hsz⟩ := treeB_of hx
    have HR := Lib.hid (show headR xs = (flat (hdT t), 0) by rw [headR, hx, ht, trOf_flat]; rfl)
    have hls : szT (hdT t) ≤ szT t := by first | exact szT_hd t | exact szT_tl t
    go_enter Try.func22, Try.ntmps22
    go_wp2_with fail
    refine (l21Is_c _ _ _ xs _ _ h hn hx).mono ?_
    rintro e w' ⟨rfl, rfl⟩
    go_wp2_with fail
    refine (l21Head_c _ _ _ t _ (by rw [← ht]; exact h) hn hnc).mono ?_
    rintro e w1 ⟨A', c', rfl, hw, hb⟩
    have HW := Lib.hid hw; have HB := Lib.hid hb
    clear hw hb ht hx
    go_wp2_with fail
    go_ret2
    rw [HR.out]
    exact ⟨_, _, _, rfl, HW.out, by omega, HB.out⟩
theorem sTailOf_c (A : Option Addr) (n c : Nat) (xs : List Bool) (w : World) (h : RdB w A n xs) (hn : n ≤ 1000000000) (hnc : n ≤ c) :
    Calls Try.prog 25 #[.slice A n c] w fun e w' => ∃ A' n' c', e = .returned (.tuple #[.slice A' n' c', .int .i64 (tailR xs).2]) ∧ Wr w' w.heap.size w'.heap.size A' n' ((tailR xs).1.map Value.bool) ∧ n' ≤ 1000000 ∧ Below w.heap.size w w' := by
  cases hx : treeB xs
  · have HR := Lib.hid (show tailR xs = ([], 1) by simp [tailR, hx])
    go_enter Try.func25, Try.ntmps25
    go_wp2_with fail
    refine (l21Is_c _ _ _ xs _ _ h hn hx).mono ?_
    rintro e w' ⟨rfl, rfl⟩
    go_wp2_with fail
    go_ret2
    rw [HR.out]
    exact ⟨_, _, _, rfl, Wr.nil, by omega, below_size⟩
  · obtain ⟨t, ht, hsz⟩ := treeB_of hx
    have HR := Lib.hid (show tailR xs = (flat (tlT t), 0) by rw [tailR, hx, ht, trOf_flat]; rfl)
    have hls : szT (tlT t) ≤ szT t := by first | exact szT_hd t | exact szT_tl t
    go_enter Try.func25, Try.ntmps25
    go_wp2_with fail
    refine (l21Is_c _ _ _ xs _ _ h hn hx).mono ?_
    rintro e w' ⟨rfl, rfl⟩
    go_wp2_with fail
    refine (l21Tail_c _ _ _ t _ (by rw [← ht]; exact h) hn hnc).mono ?_
    rintro e w1 ⟨A', c', rfl, hw, hb⟩
    have HW := Lib.hid hw; have HB := Lib.hid hb
    clear hw hb ht hx
    go_wp2_with fail
    go_ret2
    rw [HR.out]
    exact ⟨_, _, _, rfl, HW.out, by omega, HB.out⟩
end Go.Proofs.Ytplcpldbenjjgaa
