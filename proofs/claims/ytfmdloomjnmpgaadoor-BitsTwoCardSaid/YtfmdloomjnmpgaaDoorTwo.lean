/-
  BitsTwo: of two sets, what is in either, in both, in one alone, is just that; the counts fit.
-/
import Derived.Test.YtfmdloomjnmpgaaDoorAsks
namespace Go.Proofs.YtfmdloomjnmpgaaDoor
open Go.RowKit
set_option linter.unusedVariables false

theorem orW_bit (x y : UInt64) (i : Nat) : (orW x y).toNat.testBit i = (x.toNat.testBit i || y.toNat.testBit i) := by rw [orW_nat, Nat.testBit_or]
theorem andW_bit (x y : UInt64) (i : Nat) : (andW x y).toNat.testBit i = (x.toNat.testBit i && y.toNat.testBit i) := by rw [andW_nat, Nat.testBit_and]
theorem notW_bit (x y : UInt64) (i : Nat) (hi : i < 64) : (notW x y).toNat.testBit i = (x.toNat.testBit i && !y.toNat.testBit i) := by
  have h := u64_lt y
  rw [notW_nat, Nat.testBit_and, show 18446744073709551615 - y.toNat = 2 ^ 64 - (y.toNat + 1) from by omega, Nat.testBit_two_pow_sub_succ h]
  simp [hi]
theorem orW_zero : orW 0 0 = 0 := by decide +kernel
theorem andW_zero : andW 0 0 = 0 := by decide +kernel
theorem notW_zero (y : UInt64) : notW 0 y = 0 := by
  unfold notW
  simp
theorem getD_out {l : List UInt64} {i : Nat} (h : l.length ≤ i) : l.getD i 0 = 0 := by simp [List.getD, List.getElem?_eq_none h]
theorem join_at (g : UInt64 → UInt64 → UInt64) (a b : List UInt64) (n i : Nat) (h : i < n ∨ g (a.getD i 0) (b.getD i 0) = 0) : (joinL g a b n).getD i 0 = g (a.getD i 0) (b.getD i 0) := by
  by_cases hi : i < n
  · simp [joinL, List.getD, hi]
  · rcases h with h | h
    · omega
    · rw [h]
      exact getD_out (by rw [joinL_len]; omega)
theorem or_at (a b : List UInt64) (n i : Nat) (hn : n = max a.length b.length) : (joinL orW a b n).getD i 0 = orW (a.getD i 0) (b.getD i 0) := by
  refine join_at _ _ _ _ _ ?_
  by_cases hi : i < n
  · exact .inl hi
  · right
    rw [getD_out (l := a) (by omega), getD_out (l := b) (by omega), orW_zero]
theorem and_at (a b : List UInt64) (n i : Nat) (hn : n = max a.length b.length) : (joinL andW a b n).getD i 0 = andW (a.getD i 0) (b.getD i 0) := by
  refine join_at _ _ _ _ _ ?_
  by_cases hi : i < n
  · exact .inl hi
  · right
    rw [getD_out (l := a) (by omega), getD_out (l := b) (by omega), andW_zero]
theorem not_at (a b : List UInt64) (i : Nat) : (joinL notW a b a.length).getD i 0 = notW (a.getD i 0) (b.getD i 0) := by
  refine join_at _ _ _ _ _ ?_
  by_cases hi : i < a.length
  · exact .inl hi
  · right
    rw [getD_out (l := a) (by omega), notW_zero]
theorem has_or (a b : List UInt64) (n : Nat) (hn : n = max a.length b.length) (k : Int) : hasB (joinL orW a b n) k = (hasB a k || hasB b k) := by
  simp only [hasB, bitAt, or_at a b n _ hn, orW_bit]
  cases decide (0 ≤ k) <;> simp
theorem has_and (a b : List UInt64) (n : Nat) (hn : n = max a.length b.length) (k : Int) : hasB (joinL andW a b n) k = (hasB a k && hasB b k) := by
  simp only [hasB, bitAt, and_at a b n _ hn, andW_bit]
  cases decide (0 ≤ k) <;> simp
theorem has_not (a b : List UInt64) (k : Int) : hasB (joinL notW a b a.length) k = (hasB a k && !hasB b k) := by
  simp only [hasB, bitAt, not_at, notW_bit _ _ _ (Nat.mod_lt _ (by decide))]
  cases decide (0 ≤ k) <;> simp

theorem pop_bits (n x : Nat) : popN (n + 1) x = popN n x + (if x.testBit n = true then 1 else 0) := by rw [popN_succ, bit_01]
theorem pop_or_and (x y : UInt64) : popN 64 (orW x y).toNat + popN 64 (andW x y).toNat = popN 64 x.toNat + popN 64 y.toNat := by
  have h : ∀ n, popN n (orW x y).toNat + popN n (andW x y).toNat = popN n x.toNat + popN n y.toNat := by
    intro n
    induction n with
    | zero => rfl
    | succ n ih =>
      simp only [pop_bits, orW_bit, andW_bit]
      cases x.toNat.testBit n <;> cases y.toNat.testBit n <;> simp <;> omega
  exact h 64
theorem pop_not_and (x y : UInt64) : popN 64 (notW x y).toNat + popN 64 (andW x y).toNat = popN 64 x.toNat := by
  have h : ∀ n, n ≤ 64 → popN n (notW x y).toNat + popN n (andW x y).toNat = popN n x.toNat := by
    intro n
    induction n with
    | zero => intro _; rfl
    | succ n ih =>
      intro hn
      have hi := ih (by omega)
      simp only [pop_bits, notW_bit x y n (by omega), andW_bit]
      cases x.toNat.testBit n <;> cases y.toNat.testBit n <;> simp <;> omega
  exact h 64 (Nat.le_refl _)
/-- The bits of the first m words. -/
def popTo (l : List UInt64) : Nat → Nat
  | 0 => 0
  | m + 1 => popTo l m + popN 64 (l.getD m 0).toNat
theorem popTo_take (l : List UInt64) : ∀ m, popTo l m = popAll (l.take m) := by
  intro m
  induction m with
  | zero => simp [popTo, popAll]
  | succ m ih =>
    simp only [popTo]
    cases h : l[m]? with
    | none =>
      have hm : l.length ≤ m := by
        rcases Nat.lt_or_ge m l.length with h1 | h1
        · rw [List.getElem?_eq_getElem h1] at h; cases h
        · exact h1
      rw [ih, getD_out hm, List.take_of_length_le hm, List.take_of_length_le (by omega)]
      simp [show popN 64 0 = 0 from by decide +kernel]
    | some x =>
      rw [popAll_take l m h, ih]
      simp [List.getD, h]
theorem popAll_to (l : List UInt64) (m : Nat) (h : l.length ≤ m) : popAll l = popTo l m := by rw [popTo_take, List.take_of_length_le h]
theorem count_or_and (a b : List UInt64) (n : Nat) (hn : n = max a.length b.length) : popAll (joinL orW a b n) + popAll (joinL andW a b n) = popAll a + popAll b := by
  rw [popAll_to (joinL orW a b n) n (by rw [joinL_len]; exact Nat.le_refl _), popAll_to (joinL andW a b n) n (by rw [joinL_len]; exact Nat.le_refl _), popAll_to a n (by omega), popAll_to b n (by omega)]
  have h : ∀ m, popTo (joinL orW a b n) m + popTo (joinL andW a b n) m = popTo a m + popTo b m := by
    intro m
    induction m with
    | zero => rfl
    | succ m ih =>
      simp only [popTo, or_at a b n m hn, and_at a b n m hn]
      have := pop_or_and (a.getD m 0) (b.getD m 0)
      omega
  exact h n
theorem count_not_and (a b : List UInt64) (n : Nat) (hn : n = max a.length b.length) : popAll (joinL notW a b a.length) + popAll (joinL andW a b n) = popAll a := by
  rw [popAll_to (joinL notW a b a.length) n (by rw [joinL_len]; omega), popAll_to (joinL andW a b n) n (by rw [joinL_len]; exact Nat.le_refl _), popAll_to a n (by omega)]
  have h : ∀ m, popTo (joinL notW a b a.length) m + popTo (joinL andW a b n) m = popTo a m := by
    intro m
    induction m with
    | zero => rfl
    | succ m ih =>
      simp only [popTo, not_at a b m, and_at a b n m hn]
      have := pop_not_and (a.getD m 0) (b.getD m 0)
      omega
  exact h n
theorem has_of (l : List UInt64) (m : Nat) (hl : l.length = m) (j : Int) (b : Bool) (hb : hasB l j = b) (A : Option Addr) (c : Nat) (w : World) (hr : Reads w w.heap.size 1 A m (wordV l)) (hj : j ≤ 9223372036854775807) :
    Calls Tryd.prog 9 #[.slice A m c, .int .i64 j] w fun e w' => e = .returned (.bool b) ∧ w = w' := by
  subst hl hb
  exact has_any j A l c w hr hj
theorem count_of (l : List UInt64) (m p : Nat) (hl : l.length = m) (hp : popAll l = p) (A : Option Addr) (c : Nat) (w : World) (hr : Reads w w.heap.size 1 A m (wordV l)) (hm : m ≤ 1000000) :
    Calls Tryd.prog 11 #[.slice A m c] w fun e w' => e = .returned (.int .i64 p) ∧ w = w' := by
  subst hl hp
  exact count_any A l c w hr hm

set_option maxRecDepth 100000 in
set_option maxHeartbeats 4000000 in
theorem two_clt (A B : Option Addr) (a b : List UInt64) (ca cb : Nat) (w : World) (ha : Reads w w.heap.size 1 A a.length (wordV a)) (hb : Reads w w.heap.size 1 B b.length (wordV b)) (ht : Tab w) (hla : a.length ≤ 6) (hlb : b.length ≤ 6) (hc : a.length < b.length) :
    Calls Tryd.prog 5 #[.slice A a.length ca, .slice B b.length cb] w fun e w' => e = .returned (.bool true) ∧ Below w.heap.size w w' := by
  have hmax : b.length = max a.length b.length := by omega
  have HR := Lib.hid (And.intro ha (And.intro hb ht))
  have HM := Lib.hid hmax
  have hca := count_or_and a b b.length hmax
  have hcn := count_not_and a b b.length hmax
  have hpa := popAll_le a
  have hpb := popAll_le b
  obtain ⟨po, hpo⟩ : ∃ p, popAll (joinL orW a b b.length) = p := ⟨_, rfl⟩
  obtain ⟨pd, hpd⟩ : ∃ p, popAll (joinL andW a b b.length) = p := ⟨_, rfl⟩
  obtain ⟨pn, hpn⟩ : ∃ p, popAll (joinL notW a b a.length) = p := ⟨_, rfl⟩
  obtain ⟨pa, hpa2⟩ : ∃ p, popAll a = p := ⟨_, rfl⟩
  obtain ⟨pb, hpb2⟩ : ∃ p, popAll b = p := ⟨_, rfl⟩
  rw [hpo, hpd, hpa2, hpb2] at hca
  rw [hpn, hpd, hpa2] at hcn
  rw [hpa2] at hpa
  rw [hpb2] at hpb
  have e1 : ((po : Int) + (pd : Int) == (pa : Int) + (pb : Int)) = true := by rw [beq_iff_eq]; omega
  have e2 : ((pn : Int) == (pa : Int) - (pd : Int)) = true := by rw [beq_iff_eq]; omega
  have bo : po ≤ 1000 := by omega
  have bd : pd ≤ 1000 := by omega
  have ba : pa ≤ 1000 := by omega
  have bb : pb ≤ 1000 := by omega
  have HP := Lib.hid (And.intro hpo (And.intro hpd (And.intro hpn (And.intro hpa2 hpb2))))
  clear ha hb ht hmax hca hcn hpa hpb hpo hpd hpn hpa2 hpb2
  go_enter Tryd.func5, Tryd.ntmps5
  go_wp2_with fail
  refine (or_any A B a b ca cb w HR.out.1 HR.out.2.1 (by omega) (by omega)).mono ?_
  rw [← HM.out]
  rintro e w1 ⟨v1, rfl, ho1, hb1⟩
  obtain ⟨A1, c1, hv, hr1⟩ := own_words ho1
  subst hv
  have H1 := Lib.hid (And.intro hr1 hb1)
  clear ho1 hr1 hb1
  go_wp2_with fail
  refine (and_any A B a b ca cb w1 (HR.out.1.go H1.out.2) (HR.out.2.1.go H1.out.2) (by omega) (by omega)).mono ?_
  rw [← HM.out]
  rintro e w2 ⟨v2, rfl, ho2, hb2⟩
  obtain ⟨A2, c2, hv, hr2⟩ := own_words ho2
  subst hv
  have H2 := Lib.hid (And.intro (H1.out.1.go hb2) (And.intro hr2 (bel_step H1.out.2 hb2)))
  clear ho2 hr2 hb2
  go_wp2_with fail
  refine (not_any A B a b ca cb w2 (HR.out.1.go H2.out.2.2) (HR.out.2.1.go H2.out.2.2) (by omega)).mono ?_
  rintro e w3 ⟨v3, rfl, ho3, hb3⟩
  obtain ⟨A3, c3, hv, hr3⟩ := own_words ho3
  subst hv
  have H3 := Lib.hid (And.intro (H2.out.1.go hb3) (And.intro (H2.out.2.1.go hb3) (And.intro hr3 (bel_step H2.out.2.2 hb3))))
  clear ho3 hr3 hb3
  go_wp2_with fail
  go_loop [8] (fun i => ∃ j : Nat, j ≤ 451 ∧ i = .int .i64 ((j : Int) - 1)) (fun i => 451 - (intOf i + 1).toNat)
  case atStart => exact ⟨0, Nat.zero_le _, rfl⟩
  case round =>
    obtain ⟨j, hj, rfl⟩ := hrel
    by_cases hlt : j < 451
    · obtain ⟨k, hk⟩ : ∃ k : Int, k = (j : Int) - 1 := ⟨_, rfl⟩
      have HK := Lib.hid hk
      have hk1 : -1 ≤ k := by omega
      have hk2 : k < 450 := by omega
      have hk3 : ((j : Int) - 1 : Int) = k := hk.symm
      rw [hk3]
      clear hk hk3
      have q1 := has_or a b b.length HM.out k
      have q2 := has_and a b b.length HM.out k
      have q3 := has_not a b k
      cases hx : hasB a k <;> cases hy : hasB b k
      all_goals
        rw [hx, hy] at q1 q2 q3
        have HQ := Lib.hid (And.intro hx (And.intro hy (And.intro q1 (And.intro q2 q3))))
        clear hx hy q1 q2 q3
        go_wp2_with fail
        refine (has_of a _ rfl k _ HQ.out.1 A ca w3 (HR.out.1.go H3.out.2.2.2) (by omega)).mono ?_
        rintro e w4 ⟨rfl, rfl⟩
        go_wp2_with fail
        refine (has_of b _ rfl k _ HQ.out.2.1 B cb w3 (HR.out.2.1.go H3.out.2.2.2) (by omega)).mono ?_
        rintro e w4 ⟨rfl, rfl⟩
        go_wp2_with fail
        refine (has_of (joinL orW a b b.length) _ (joinL_len _ _ _ _) k _ HQ.out.2.2.1 A1 c1 w3 H3.out.1 (by omega)).mono ?_
        rintro e w4 ⟨rfl, rfl⟩
        go_wp2_with fail
        refine (has_of (joinL andW a b b.length) _ (joinL_len _ _ _ _) k _ HQ.out.2.2.2.1 A2 c2 w3 H3.out.2.1 (by omega)).mono ?_
        rintro e w4 ⟨rfl, rfl⟩
        go_wp2_with fail
        refine (has_of (joinL notW a b a.length) _ (joinL_len _ _ _ _) k _ HQ.out.2.2.2.2 A3 c3 w3 H3.out.2.2.1 (by omega)).mono ?_
        rintro e w4 ⟨rfl, rfl⟩
        go_wp2_with fail
        go_round
        case rel => exact ⟨j + 1, by omega, by rw [HK.out]; go_num⟩
        case measure => simp [intOf]; have := HK.out; omega
    · obtain rfl : j = 451 := by omega
      go_wp2_with fail
      refine (told_any w3 (HR.out.2.2.below H3.out.2.2.2 HR.out.2.2.1)).mono ?_
      rintro e w4 ⟨rfl, hb4⟩
      have H4 := Lib.hid (And.intro (H3.out.1.go hb4) (And.intro (H3.out.2.1.go hb4) (And.intro (H3.out.2.2.1.go hb4) (bel_step H3.out.2.2.2 hb4))))
      clear hb4
      go_wp2_with fail
      refine (count_of (joinL orW a b b.length) _ _ (joinL_len _ _ _ _) HP.out.1 A1 c1 w4 H4.out.1 (by omega)).mono ?_
      rintro e w5 ⟨rfl, rfl⟩
      go_wp2_with fail
      refine (count_of (joinL andW a b b.length) _ _ (joinL_len _ _ _ _) HP.out.2.1 A2 c2 w4 H4.out.2.1 (by omega)).mono ?_
      rintro e w5 ⟨rfl, rfl⟩
      go_wp2_with fail
      refine (count_of a _ _ rfl HP.out.2.2.2.1 A ca w4 (HR.out.1.go H4.out.2.2.2) (by omega)).mono ?_
      rintro e w5 ⟨rfl, rfl⟩
      go_wp2_with fail
      refine (count_of b _ _ rfl HP.out.2.2.2.2 B cb w4 (HR.out.2.1.go H4.out.2.2.2) (by omega)).mono ?_
      rintro e w5 ⟨rfl, rfl⟩
      go_wp2_with fail
      refine (count_of (joinL notW a b a.length) _ _ (joinL_len _ _ _ _) HP.out.2.2.1 A3 c3 w4 H4.out.2.2.1 (by omega)).mono ?_
      rintro e w5 ⟨rfl, rfl⟩
      go_wp2_with fail
      refine (count_of a _ _ rfl HP.out.2.2.2.1 A ca w4 (HR.out.1.go H4.out.2.2.2) (by omega)).mono ?_
      rintro e w5 ⟨rfl, rfl⟩
      go_wp2_with fail
      refine (count_of (joinL andW a b b.length) _ _ (joinL_len _ _ _ _) HP.out.2.1 A2 c2 w4 H4.out.2.1 (by omega)).mono ?_
      rintro e w5 ⟨rfl, rfl⟩
      go_wp2_with fail
      go_ret
      exact ⟨rfl, H4.out.2.2.2⟩
set_option maxRecDepth 100000 in
set_option maxHeartbeats 4000000 in
theorem two_cge (A B : Option Addr) (a b : List UInt64) (ca cb : Nat) (w : World) (ha : Reads w w.heap.size 1 A a.length (wordV a)) (hb : Reads w w.heap.size 1 B b.length (wordV b)) (ht : Tab w) (hla : a.length ≤ 6) (hlb : b.length ≤ 6) (hc : b.length ≤ a.length) :
    Calls Tryd.prog 5 #[.slice A a.length ca, .slice B b.length cb] w fun e w' => e = .returned (.bool true) ∧ Below w.heap.size w w' := by
  have hmax : a.length = max a.length b.length := by omega
  have HR := Lib.hid (And.intro ha (And.intro hb ht))
  have HM := Lib.hid hmax
  have hca := count_or_and a b a.length hmax
  have hcn := count_not_and a b a.length hmax
  have hpa := popAll_le a
  have hpb := popAll_le b
  obtain ⟨po, hpo⟩ : ∃ p, popAll (joinL orW a b a.length) = p := ⟨_, rfl⟩
  obtain ⟨pd, hpd⟩ : ∃ p, popAll (joinL andW a b a.length) = p := ⟨_, rfl⟩
  obtain ⟨pn, hpn⟩ : ∃ p, popAll (joinL notW a b a.length) = p := ⟨_, rfl⟩
  obtain ⟨pa, hpa2⟩ : ∃ p, popAll a = p := ⟨_, rfl⟩
  obtain ⟨pb, hpb2⟩ : ∃ p, popAll b = p := ⟨_, rfl⟩
  rw [hpo, hpd, hpa2, hpb2] at hca
  rw [hpn, hpd, hpa2] at hcn
  rw [hpa2] at hpa
  rw [hpb2] at hpb
  have e1 : ((po : Int) + (pd : Int) == (pa : Int) + (pb : Int)) = true := by rw [beq_iff_eq]; omega
  have e2 : ((pn : Int) == (pa : Int) - (pd : Int)) = true := by rw [beq_iff_eq]; omega
  have bo : po ≤ 1000 := by omega
  have bd : pd ≤ 1000 := by omega
  have ba : pa ≤ 1000 := by omega
  have bb : pb ≤ 1000 := by omega
  have HP := Lib.hid (And.intro hpo (And.intro hpd (And.intro hpn (And.intro hpa2 hpb2))))
  clear ha hb ht hmax hca hcn hpa hpb hpo hpd hpn hpa2 hpb2
  go_enter Tryd.func5, Tryd.ntmps5
  go_wp2_with fail
  refine (or_any A B a b ca cb w HR.out.1 HR.out.2.1 (by omega) (by omega)).mono ?_
  rw [← HM.out]
  rintro e w1 ⟨v1, rfl, ho1, hb1⟩
  obtain ⟨A1, c1, hv, hr1⟩ := own_words ho1
  subst hv
  have H1 := Lib.hid (And.intro hr1 hb1)
  clear ho1 hr1 hb1
  go_wp2_with fail
  refine (and_any A B a b ca cb w1 (HR.out.1.go H1.out.2) (HR.out.2.1.go H1.out.2) (by omega) (by omega)).mono ?_
  rw [← HM.out]
  rintro e w2 ⟨v2, rfl, ho2, hb2⟩
  obtain ⟨A2, c2, hv, hr2⟩ := own_words ho2
  subst hv
  have H2 := Lib.hid (And.intro (H1.out.1.go hb2) (And.intro hr2 (bel_step H1.out.2 hb2)))
  clear ho2 hr2 hb2
  go_wp2_with fail
  refine (not_any A B a b ca cb w2 (HR.out.1.go H2.out.2.2) (HR.out.2.1.go H2.out.2.2) (by omega)).mono ?_
  rintro e w3 ⟨v3, rfl, ho3, hb3⟩
  obtain ⟨A3, c3, hv, hr3⟩ := own_words ho3
  subst hv
  have H3 := Lib.hid (And.intro (H2.out.1.go hb3) (And.intro (H2.out.2.1.go hb3) (And.intro hr3 (bel_step H2.out.2.2 hb3))))
  clear ho3 hr3 hb3
  go_wp2_with fail
  go_loop [8] (fun i => ∃ j : Nat, j ≤ 451 ∧ i = .int .i64 ((j : Int) - 1)) (fun i => 451 - (intOf i + 1).toNat)
  case atStart => exact ⟨0, Nat.zero_le _, rfl⟩
  case round =>
    obtain ⟨j, hj, rfl⟩ := hrel
    by_cases hlt : j < 451
    · obtain ⟨k, hk⟩ : ∃ k : Int, k = (j : Int) - 1 := ⟨_, rfl⟩
      have HK := Lib.hid hk
      have hk1 : -1 ≤ k := by omega
      have hk2 : k < 450 := by omega
      have hk3 : ((j : Int) - 1 : Int) = k := hk.symm
      rw [hk3]
      clear hk hk3
      have q1 := has_or a b a.length HM.out k
      have q2 := has_and a b a.length HM.out k
      have q3 := has_not a b k
      cases hx : hasB a k <;> cases hy : hasB b k
      all_goals
        rw [hx, hy] at q1 q2 q3
        have HQ := Lib.hid (And.intro hx (And.intro hy (And.intro q1 (And.intro q2 q3))))
        clear hx hy q1 q2 q3
        go_wp2_with fail
        refine (has_of a _ rfl k _ HQ.out.1 A ca w3 (HR.out.1.go H3.out.2.2.2) (by omega)).mono ?_
        rintro e w4 ⟨rfl, rfl⟩
        go_wp2_with fail
        refine (has_of b _ rfl k _ HQ.out.2.1 B cb w3 (HR.out.2.1.go H3.out.2.2.2) (by omega)).mono ?_
        rintro e w4 ⟨rfl, rfl⟩
        go_wp2_with fail
        refine (has_of (joinL orW a b a.length) _ (joinL_len _ _ _ _) k _ HQ.out.2.2.1 A1 c1 w3 H3.out.1 (by omega)).mono ?_
        rintro e w4 ⟨rfl, rfl⟩
        go_wp2_with fail
        refine (has_of (joinL andW a b a.length) _ (joinL_len _ _ _ _) k _ HQ.out.2.2.2.1 A2 c2 w3 H3.out.2.1 (by omega)).mono ?_
        rintro e w4 ⟨rfl, rfl⟩
        go_wp2_with fail
        refine (has_of (joinL notW a b a.length) _ (joinL_len _ _ _ _) k _ HQ.out.2.2.2.2 A3 c3 w3 H3.out.2.2.1 (by omega)).mono ?_
        rintro e w4 ⟨rfl, rfl⟩
        go_wp2_with fail
        go_round
        case rel => exact ⟨j + 1, by omega, by rw [HK.out]; go_num⟩
        case measure => simp [intOf]; have := HK.out; omega
    · obtain rfl : j = 451 := by omega
      go_wp2_with fail
      refine (told_any w3 (HR.out.2.2.below H3.out.2.2.2 HR.out.2.2.1)).mono ?_
      rintro e w4 ⟨rfl, hb4⟩
      have H4 := Lib.hid (And.intro (H3.out.1.go hb4) (And.intro (H3.out.2.1.go hb4) (And.intro (H3.out.2.2.1.go hb4) (bel_step H3.out.2.2.2 hb4))))
      clear hb4
      go_wp2_with fail
      refine (count_of (joinL orW a b a.length) _ _ (joinL_len _ _ _ _) HP.out.1 A1 c1 w4 H4.out.1 (by omega)).mono ?_
      rintro e w5 ⟨rfl, rfl⟩
      go_wp2_with fail
      refine (count_of (joinL andW a b a.length) _ _ (joinL_len _ _ _ _) HP.out.2.1 A2 c2 w4 H4.out.2.1 (by omega)).mono ?_
      rintro e w5 ⟨rfl, rfl⟩
      go_wp2_with fail
      refine (count_of a _ _ rfl HP.out.2.2.2.1 A ca w4 (HR.out.1.go H4.out.2.2.2) (by omega)).mono ?_
      rintro e w5 ⟨rfl, rfl⟩
      go_wp2_with fail
      refine (count_of b _ _ rfl HP.out.2.2.2.2 B cb w4 (HR.out.2.1.go H4.out.2.2.2) (by omega)).mono ?_
      rintro e w5 ⟨rfl, rfl⟩
      go_wp2_with fail
      refine (count_of (joinL notW a b a.length) _ _ (joinL_len _ _ _ _) HP.out.2.2.1 A3 c3 w4 H4.out.2.2.1 (by omega)).mono ?_
      rintro e w5 ⟨rfl, rfl⟩
      go_wp2_with fail
      refine (count_of a _ _ rfl HP.out.2.2.2.1 A ca w4 (HR.out.1.go H4.out.2.2.2) (by omega)).mono ?_
      rintro e w5 ⟨rfl, rfl⟩
      go_wp2_with fail
      refine (count_of (joinL andW a b a.length) _ _ (joinL_len _ _ _ _) HP.out.2.1 A2 c2 w4 H4.out.2.1 (by omega)).mono ?_
      rintro e w5 ⟨rfl, rfl⟩
      go_wp2_with fail
      go_ret
      exact ⟨rfl, H4.out.2.2.2⟩
set_option maxHeartbeats 1000000 in
theorem two_long (A B : Option Addr) (n m ca cb : Nat) (w : World) (ht : Tab w) (h : 6 < n ∨ 6 < m) :
    Calls Tryd.prog 5 #[.slice A n ca, .slice B m cb] w fun e w' => e = .returned (.bool true) ∧ Below w.heap.size w w' := by
  have HT := Lib.hid ht
  clear ht
  by_cases h1 : 6 < n
  · clear h
    go_enter Tryd.func5, Tryd.ntmps5
    go_wp2_with fail
    refine (told_any w HT.out).mono ?_
    rintro e w1 ⟨rfl, hb1⟩
    have HB := Lib.hid hb1
    clear hb1
    go_wp2_with fail
    go_ret
    exact ⟨rfl, HB.out⟩
  · have h2 : 6 < m := by omega
    clear h
    go_enter Tryd.func5, Tryd.ntmps5
    go_wp2_with fail
    refine (told_any w HT.out).mono ?_
    rintro e w1 ⟨rfl, hb1⟩
    have HB := Lib.hid hb1
    clear hb1
    go_wp2_with fail
    go_ret
    exact ⟨rfl, HB.out⟩
theorem two_any (A B : Option Addr) (a b : List UInt64) (ca cb : Nat) (w : World) (ha : Reads w w.heap.size 1 A a.length (wordV a)) (hb : Reads w w.heap.size 1 B b.length (wordV b)) (ht : Tab w) :
    Calls Tryd.prog 5 #[.slice A a.length ca, .slice B b.length cb] w fun e w' => e = .returned (.bool true) ∧ Below w.heap.size w w' := by
  by_cases h : 6 < a.length ∨ 6 < b.length
  · exact two_long A B _ _ ca cb w ht h
  · by_cases hc : a.length < b.length
    · exact two_clt A B a b ca cb w ha hb ht (by omega) (by omega) hc
    · exact two_cge A B a b ca cb w ha hb ht (by omega) (by omega) (by omega)
end Go.Proofs.YtfmdloomjnmpgaaDoor
