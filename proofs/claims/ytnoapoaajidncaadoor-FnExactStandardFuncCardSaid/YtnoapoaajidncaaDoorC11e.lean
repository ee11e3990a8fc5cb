/-
  Reading functions: the reference's digits and bytes; append of functions; bounds of the reference's reader.
-/
import Derived.Test.YtnoapoaajidncaaDoorC11d
import Derived.Test.YtnoapoaajidncaaDoorRdS
namespace Go.Proofs.YtnoapoaajidncaaDoor
open Go.RowKit
open FTr

theorem byS_lt {s : List UInt8} {k : Nat} {b : UInt8} (h : byS s k b = true) : k < s.length := (List.getElem?_eq_some_iff.1 (of_decide_eq_true h)).1
/-- bounds of what the reference's reader gives -/
structure PzBd (s : List UInt8) (B k : Nat) (r : RdF) : Prop where
  len : r.1.length ≤ 61 + B
  pos : r.2.2 = true → r.1 ≠ []
  hd : -(B : Int) - 9 ≤ hdA r.1 ∧ hdA r.1 ≤ 9
  next : r.2.1 ≤ max k (s.length + 3)
theorem PzBd.no {s : List UInt8} {B k : Nat} : PzBd s B k ([], k, false) := ⟨by simp, (fun h => by cases h), by simp [hdA]; omega, by simp only; omega⟩
structure PlBd (s : List UInt8) (B : Nat) (F many : Nat) (all : List Nd3) (a : Int) (m nx : Nat) : Prop where
  len : all.length ≤ 60
  hd : -(B : Int) - 9 ≤ a ∧ a ≤ 9
  many : m ≤ many + F
  next : nx ≤ s.length + 3
theorem pzL_bd {s : List UInt8} {g : Nat → RdF} {isR : Bool} {B : Nat} (hg : ∀ k, PzBd s B k (g k)) : ∀ (F : Nat) (all : List Nd3) (many next : Nat) (l : List Nd3) (a : Int) (m nx : Nat), next < s.length → pzL s g isR F all many next = some (l, a, m, nx) → PlBd s B F many l a m nx
  | 0, _, _, _, _, _, _, _, _, h => by rw [pzL] at h; cases h
  | F + 1, all, many, next, l, a, m, nx, hn, h => by
    rw [pzL] at h
    have hb := hg (next + 1)
    have h3 := hb.next
    split at h
    · cases h
    · rename_i hc
      split at h
      · simp only [Option.some.injEq, Prod.mk.injEq] at h
        obtain ⟨rfl, rfl, rfl, rfl⟩ := h
        exact ⟨by rw [List.length_append]; omega, hb.hd, by omega, by omega⟩
      · rename_i hd
        have h4 : byS s (g (next + 1)).2.1 44 = true := by cases hq : byS s (g (next + 1)).2.1 44; exact absurd (.inl hq) hd; rfl
        have := pzL_bd hg F _ _ _ l a m nx (byS_lt h4) h
        exact ⟨this.len, this.hd, by have := this.many; omega, this.next⟩
theorem pzT_bd {s : List UInt8} {g : Nat → RdF} {B k : Nat} {isR : Bool} (hg : ∀ k, PzBd s B k (g k)) : PzBd s (B + 1) k (pzT s g k isR) := by
  unfold pzT
  split
  · split
    · rename_i h1 h2
      cases hl : pzL s g isR 61 (g (k + 2)).1 0 (g (k + 2)).2.1 with
      | none => exact PzBd.no
      | some r =>
        obtain ⟨l, a, m, nx⟩ := r
        have hb := pzL_bd hg _ _ _ _ _ _ _ _ (byS_lt h2.2) hl
        rw [pzH]
        split
        · rename_i h3
          have h4 := byS_lt h3
          have := hb.len; have := hb.hd
          cases isR
          · exact ⟨by simp only [List.length_cons]; omega, (fun _ => by simp), by rw [if_neg (by simp), hdA_cons]; simp only; omega, by simp only; omega⟩
          · exact ⟨by simp only [List.length_cons]; omega, (fun _ => by simp), by rw [if_pos rfl, hdA_cons]; simp only; omega, by simp only; omega⟩
        · exact PzBd.no
    · exact PzBd.no
  · exact PzBd.no
theorem pzM_bd {s : List UInt8} {g : Nat → RdF} {B k : Nat} (hg : ∀ k, PzBd s B k (g k)) : PzBd s (B + 1) k (pzM s g k) := by
  unfold pzM
  split
  · split
    · rename_i h1 h2
      have h4 := byS_lt h2.2
      have := (hg (k + 2)).len; have := (hg (k + 2)).hd
      exact ⟨by simp only [List.length_cons]; omega, (fun _ => by simp), by rw [hdA_cons]; simp only; omega, by simp only; omega⟩
    · exact PzBd.no
  · exact PzBd.no
theorem dgS_bd (s : List UInt8) (k : Nat) : -1 ≤ dgS s k ∧ dgS s k ≤ 9 := by
  unfold dgS
  split
  · omega
  · split <;> omega
theorem pzE_bd (s : List UInt8) : ∀ (d k : Nat), PzBd s d k (pzE s d k)
  | 0, k => PzBd.no
  | d + 1, k => by
    have ih := pzE_bd s d
    cases hs : s[k]? with
    | none => rw [pzE_none (.inl hs)]; exact PzBd.no
    | some c =>
      have hk := (List.getElem?_eq_some_iff.1 hs).1
      have h1 := dgS_bd s (k + 1)
      rw [pzE_some hs]
      split
      · exact ⟨by simp; omega, (fun _ => by simp), by rw [hdA_cons]; simp only; omega, by simp only; omega⟩
      split
      · exact ⟨by simp; omega, (fun _ => by simp), by rw [hdA_cons]; simp only; omega, by simp only; omega⟩
      split
      · exact ⟨by simp; omega, (fun _ => by simp), by rw [hdA_cons]; simp only; omega, by simp only; omega⟩
      split
      · exact pzM_bd ih
      split
      · exact pzT_bd ih
      split
      · exact pzT_bd ih
      · exact PzBd.no

/-! ### append of functions -/
theorem one_triples (xs : List Nd3) : ∀ u ∈ xs.flatMap enc3, u.oneCell' = true := by
  intro u hu
  obtain ⟨y, _, hy⟩ := List.mem_flatMap.1 hu
  simp only [enc3, List.mem_cons, List.not_mem_nil, or_false] at hy
  rcases hy with rfl | rfl | rfl <;> rfl
theorem Rd3.none0 {w : World} {A : Option Addr} : Rd3 w A 0 [] := ⟨rfl, fun h => absurd h (by omega)⟩
theorem info_pFunc : (Tryd.prog.info? 37).map (fun i => (i.zero, i.size, i.bytes)) = some (some (.agg #[.int .i64 0, .int .i64 0, .int .i64 0]), 3, 24) := by kernel_rfl
theorem wp_appFunc {ops : Array Oper} {rest : List Oper} {o : Oper} {a : Act} {w : World} {Q : Exit → Act → World → Prop} (hgd : o.guard = none) (s x : Operand)
    (ho : o.op = .call { callee := .builtin .append, args := #[s, x], argTypes := #[22, 22] })
    (B : Nat) (A : Option Addr) (n c : Nat) (vs : List Value) (hs : a.eval s = .slice A n c) (hown : Own w B 37 3 A n c vs)
    (X : Option Addr) (m c' : Nat) (xs : List Nd3) (hx : a.eval x = .slice X m c') (hX : Rd3 w X m xs) (hlen : n + m ≤ 1000000000) (hB : B ≤ w.heap.size)
    (h : ∀ A' cap w', Own w' B 37 3 A' (n + m) cap (vs ++ xs.flatMap enc3) → Below B w w' → (∀ b, b < w.heap.size → (∀ ad', A = some ad' → ad'.block ≠ b) → w'.heap[b]? = w.heap[b]?) → (A' = A ∨ A' = some ⟨w.heap.size, 0, none⟩) → w.heap.size ≤ w'.heap.size →
      wpList Tryd.prog ops Q rest (a.put o.dst (.slice A' (n + m) cap)) w') : wpList Tryd.prog ops Q (o :: rest) a w := by
  by_cases h0 : 0 < m
  · obtain ⟨hl, hc⟩ := hX
    obtain ⟨ad, rfl, hab, hcs⟩ := hc (by omega)
    refine wp_app hgd s x 22 37 (.agg #[.int .i64 0, .int .i64 0, .int .i64 0]) 3 24 ho Tryd.underlying22 info_pFunc rfl (by omega) B A n c vs hs hown ad m c' (xs.flatMap enc3) hx h0 hl hcs (one_triples xs) (by omega) (by omega) hB ?_
    intro g' cap w2 own2 hb2 hk2 hg2 hz2
    exact h _ cap w2 own2 hb2 hk2 (hg2.elim (fun e => .inl e.symm) (fun e => .inr (by rw [e]))) hz2
  · obtain rfl : m = 0 := by omega
    have hws : xs = [] := List.length_eq_zero_iff.1 hX.len
    subst hws
    refine wp_app0 hgd s x 22 37 (.agg #[.int .i64 0, .int .i64 0, .int .i64 0]) 3 24 ho Tryd.underlying22 info_pFunc A n c hs hown.cap X c' hx ?_
    exact h A c w (by simpa using hown) ⟨rfl, rfl, rfl, Nat.le_refl _, fun _ _ => rfl⟩ (fun _ _ _ => rfl) (.inl rfl) (Nat.le_refl _)

/-! ### digits and bytes -/
theorem l11Byte_c (s : List UInt8) (k : Nat) (ki : Int) (b : Nat) (bi : Int) (q : Bool) (w : World) (hs : s.length ≤ 1048576) (hki : ki = k) (_hk : k ≤ 3000000) (hb : b < 256) (hbi : bi = b) (hq : byS s k (UInt8.ofNat b) = q) :
    Calls Tryd.prog 30 #[.string (bs s), .int .i64 ki, .int .u8 bi] w fun e w' => e = .returned (.bool q) ∧ w = w' := by
  subst hki hbi
  obtain ⟨n, hn⟩ : ∃ n, (bs s).size = n := ⟨_, rfl⟩
  have hln : s.length = n := by rw [← hn, bs_size]
  have HQ := Lib.hid hq
  have hn2 : n ≤ 1048576 := by rw [← hln]; exact hs
  clear hq
  by_cases h : k < n
  · obtain ⟨c, hc⟩ : ∃ c, s[k]? = some c := ⟨_, List.getElem?_eq_getElem (by rw [hln]; exact h)⟩
    obtain ⟨x, hx⟩ : ∃ x : Int, (c.toNat : Int) = x := ⟨_, rfl⟩
    have hix := fun w => run_ixS hc hx w
    have HE := Lib.hid (u8_eq (c := c) hb)
    by_cases hxb : x = (b : Int)
    · have g : (x == (b : Int)) = true := by simpa using hxb
      have HG := Lib.hid (show true = q by rw [← HQ.out, byS, hc, HE.out.2 (by rw [hx]; exact hxb)]; simp)
      clear hxb hc hx hln
      go_enter Tryd.func30, Tryd.ntmps30
      go_wp2_with fail
      go_ret
      exact ⟨by rw [← HG.out]; rfl, rfl⟩
    · have g : (x == (b : Int)) = false := by simpa using hxb
      have HG := Lib.hid (show false = q by
        rw [← HQ.out, byS, hc]; symm
        rw [decide_eq_false_iff_not]
        intro e; injection e with e
        exact hxb (by rw [← hx]; exact HE.out.1 e))
      clear hxb hc hx hln
      go_enter Tryd.func30, Tryd.ntmps30
      go_wp2_with fail
      go_ret
      exact ⟨by rw [← HG.out]; rfl, rfl⟩
  · have HG := Lib.hid (show false = q by rw [← HQ.out, byS, List.getElem?_eq_none (by rw [hln]; omega)]; rfl)
    clear hln
    go_enter Tryd.func30, Tryd.ntmps30
    go_wp2_with fail
    go_ret
    exact ⟨by rw [← HG.out]; rfl, rfl⟩
theorem l11Digit_c (s : List UInt8) (k : Nat) (ki v : Int) (w : World) (hs : s.length ≤ 1048576) (hki : ki = k) (_hk : k ≤ 3000000) (hv : dgS s k = v) :
    Calls Tryd.prog 29 #[.string (bs s), .int .i64 ki] w fun e w' => e = .returned (.int .i64 v) ∧ w = w' := by
  subst hki
  obtain ⟨n, hn⟩ : ∃ n, (bs s).size = n := ⟨_, rfl⟩
  have hln : s.length = n := by rw [← hn, bs_size]
  have HV := Lib.hid hv
  have hn2 : n ≤ 1048576 := by rw [← hln]; exact hs
  clear hv
  by_cases h : n ≤ k
  · have HG := Lib.hid (show -1 = v by rw [← HV.out, dgS, List.getElem?_eq_none (by rw [hln]; omega)])
    clear hln
    go_enter Tryd.func29, Tryd.ntmps29
    go_wp2_with fail
    go_ret
    exact ⟨by rw [← HG.out]; rfl, rfl⟩
  · obtain ⟨c, hc⟩ : ∃ c, s[k]? = some c := ⟨_, List.getElem?_eq_getElem (by rw [hln]; omega)⟩
    obtain ⟨x, hx⟩ : ∃ x : Int, (c.toNat : Int) = x := ⟨_, rfl⟩
    have hix := fun w => run_ixS hc hx w
    by_cases hdg : 48 ≤ x ∧ x ≤ 57
    · have hq := Lib.hid (show (decide (48 ≤ x) && decide (x ≤ 57)) = true by rw [decide_eq_true hdg.1, decide_eq_true hdg.2]; rfl)
      have HG := Lib.hid (show x - 48 = v by rw [← HV.out, dgS, hc]; simp only; rw [if_pos (by omega), hx])
      have v1 : IntKind.u8.wrap (x - 48) = x - 48 := by have e := IntWalk.u8_in (x - 48) (by omega); exact e
      have v2 : IntKind.i64.wrap (x - 48) = x - 48 := IntWalk.i64_in _ (by omega)
      clear hc hx hln
      go_enter Tryd.func29, Tryd.ntmps29
      go_wp2_with (go_at_call 44; refine (l01Digit_c x true _ hq.out).mono ?_; rintro e w' ⟨rfl, rfl⟩)
      go_ret
      exact ⟨by rw [← HG.out]; rfl, rfl⟩
    · have hq := Lib.hid (show (decide (48 ≤ x) && decide (x ≤ 57)) = false by rw [Bool.and_eq_false_iff, decide_eq_false_iff_not, decide_eq_false_iff_not]; omega)
      have HG := Lib.hid (show -1 = v by rw [← HV.out, dgS, hc]; simp only; rw [if_neg (by omega)])
      clear hc hx hln hdg
      go_enter Tryd.func29, Tryd.ntmps29
      go_wp2_with (go_at_call 44; refine (l01Digit_c x false _ hq.out).mono ?_; rintro e w' ⟨rfl, rfl⟩)
      go_ret
      exact ⟨by rw [← HG.out]; rfl, rfl⟩
theorem l11Own_c (A : Option Addr) (n cp : Nat) (f : List Nd3) (w : World) (h : Rd3 w A n f) (hn : n ≤ 1000000000) :
    Calls Tryd.prog 45 #[.slice A n cp] w fun e w' => ∃ A' c, e = .returned (.slice A' n c) ∧ Own w' w.heap.size 37 3 A' n c (f.flatMap enc3) ∧ Below w.heap.size w w' := by
  have H := Lib.hid h; clear h
  go_enter Tryd.func45, Tryd.ntmps45
  go_wp2_with (at_builtin; refine wp_appFunc (by rfl) _ _ (by rfl) w.heap.size (some ⟨w.heap.size, 0, none⟩) 0 0 [] (by rfl) (by exact Own.litK (Nat.le_refl _)) A n cp f (by rfl) (by exact Rd3.alloc H.out _) (by omega) (by simp) ?_; intro A1 c1 w1 own1 hb1 hk1 hg1 hz1)
  rw [Nat.zero_add, List.nil_append] at own1
  go_ret
  exact ⟨A1, c1, by simp, own1, (below_size.alloc (Nat.le_refl _) _).trans hb1⟩
end Go.Proofs.YtnoapoaajidncaaDoor
