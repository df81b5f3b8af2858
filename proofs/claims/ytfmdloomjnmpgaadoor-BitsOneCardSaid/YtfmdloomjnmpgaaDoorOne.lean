/-
  BitsOne: a number that is put in is there, taken out it is not, all others stay.
-/
import Derived.Test.YtfmdloomjnmpgaaDoorAsks
namespace Go.Proofs.YtfmdloomjnmpgaaDoor
open Go.RowKit

theorem bitAt_mod {f : UInt64 → Nat → UInt64} (hf : ∀ (x : UInt64) (j i : Nat), j < 64 → i < 64 → j ≠ i → (f x j).toNat.testBit i = x.toNat.testBit i) (l : List UInt64) (k : Int) (j : Nat) (hne : (j : Int) ≠ k) : bitAt (modL f l k) j = bitAt l j := by
  by_cases h0 : k < 0
  · rw [modL_neg _ _ h0]
  · obtain ⟨m, rfl⟩ : ∃ m : Nat, k = (m : Int) := ⟨k.toNat, by omega⟩
    by_cases h1 : l.length ≤ m / 64
    · rw [modL_out _ _ h1]
    · have hx : l[m / 64]? = some (l[m / 64]'(by omega)) := List.getElem?_eq_getElem (by omega)
      rw [modL_in _ _ hx]
      by_cases h2 : j / 64 = m / 64
      · rw [bitAt_in (l := l.set (m / 64) _) (k := j) (x := f (l[m / 64]'(by omega)) (m % 64)) (by rw [h2]; exact List.getElem?_set_self (by omega)), bitAt_in (l := l) (k := j) (by rw [h2]; exact hx)]
        exact hf _ _ _ (Nat.mod_lt _ (by decide)) (Nat.mod_lt _ (by decide)) (by omega)
      · simp only [bitAt, List.getD]
        rw [List.getElem?_set_ne (by omega)]
theorem setW_other (x : UInt64) (j i : Nat) (hj : j < 64) (_hi : i < 64) (h : j ≠ i) : (setW x j).toNat.testBit i = x.toNat.testBit i := by
  rw [setW_bit x hj]
  simp [h]
theorem clrW_other (x : UInt64) (j i : Nat) (hj : j < 64) (hi : i < 64) (h : j ≠ i) : (clrW x j).toNat.testBit i = x.toNat.testBit i := by
  rw [clrW_bit x hj i hi]
  simp [h]
theorem hasB_nat (l : List UInt64) (j : Nat) : hasB l j = bitAt l j := by simp [hasB]
theorem has_add_other (l : List UInt64) (k : Int) (j : Nat) (h : (j : Int) ≠ k) : hasB (modL setW l k) j = hasB l j := by
  rw [hasB_nat, hasB_nat]
  exact bitAt_mod setW_other l k j h
theorem has_less_other (l : List UInt64) (k : Int) (j : Nat) (h : (j : Int) ≠ k) : hasB (modL clrW l k) j = hasB l j := by
  rw [hasB_nat, hasB_nat]
  exact bitAt_mod clrW_other l k j h
theorem has_less_self (l : List UInt64) (k : Int) : hasB (modL clrW l k) k = false := by
  by_cases h0 : k < 0
  · simp [hasB]
    omega
  · obtain ⟨m, rfl⟩ : ∃ m : Nat, k = (m : Int) := ⟨k.toNat, by omega⟩
    rw [hasB_nat]
    by_cases h1 : l.length ≤ m / 64
    · rw [modL_out _ _ h1]
      exact bitAt_out h1
    · have hx : l[m / 64]? = some (l[m / 64]'(by omega)) := List.getElem?_eq_getElem (by omega)
      rw [modL_in _ _ hx, bitAt_in (l := l.set (m / 64) _) (k := m) (List.getElem?_set_self (by omega)), clrW_bit _ (Nat.mod_lt _ (by decide)) _ (Nat.mod_lt _ (by decide))]
      simp
theorem has_add_neg (l : List UInt64) {k : Int} (h : k < 0) : hasB (modL setW l k) k = false := by
  simp [hasB]
  omega
theorem has_add_out (l : List UInt64) {k : Int} (h0 : 0 ≤ k) (h : 64 * (l.length : Int) ≤ k) : hasB (modL setW l k) k = false := by
  obtain ⟨m, rfl⟩ : ∃ m : Nat, k = (m : Int) := ⟨k.toNat, by omega⟩
  have h1 : l.length ≤ m / 64 := by omega
  rw [modL_out _ _ h1, hasB_nat]
  exact bitAt_out h1
theorem has_add_in (l : List UInt64) {k : Int} (h0 : 0 ≤ k) (h : k < 64 * (l.length : Int)) : hasB (modL setW l k) k = true := by
  obtain ⟨m, rfl⟩ : ∃ m : Nat, k = (m : Int) := ⟨k.toNat, by omega⟩
  have h1 : m / 64 < l.length := by omega
  have hx : l[m / 64]? = some (l[m / 64]'(by omega)) := List.getElem?_eq_getElem (by omega)
  rw [hasB_nat, modL_in _ _ hx, bitAt_in (l := l.set (m / 64) _) (k := m) (List.getElem?_set_self (by omega)), setW_bit _ (Nat.mod_lt _ (by decide))]
  simp

set_option maxRecDepth 100000 in
set_option maxHeartbeats 4000000 in
theorem one_neg (A : Option Addr) (s : List UInt64) (c : Nat) (k : Int) (w : World) (hs : Reads w w.heap.size 1 A s.length (wordV s)) (ht : Tab w) (hl : s.length ≤ 6) (hk : k ≤ 9223372036854775807) (h0 : k < 0) :
    Calls Tryd.prog 6 #[.slice A s.length c, .int .i64 k] w fun e w' => e = .returned (.bool true) ∧ Below w.heap.size w w' := by
  obtain ⟨i0, hi0, hz0, hz1, hz2⟩ := info_parts info43
  have HR := Lib.hid (And.intro hs ht)
  have HI := Lib.hid (has_add_neg s h0)
  clear hs ht
  go_enter Tryd.func6, Tryd.ntmps6
  go_wp2_with (at_builtin; refine wpList_append_any _ rfl (.tmp 14) (.tmp 15) _ rfl w.heap.size 43 i0 _ 1 8 Tryd.underlying24 hi0 hz0 hz1 hz2 rfl (by omega) (.slice (some ⟨w.heap.size, 0, none⟩) 0 0) 0 [] rfl (World.ownsRow_made w #[] 0 (Nat.le_refl _) (by simp [maxLen]) (by simp)) w.heap.size A s.length c (wordV s) rfl (HR.out.1.alloc (Nat.le_refl _) _) (wordV_one s) (by simp only [maxLen]; omega) (by omega) (by simp) ?_; intro v1 w1 hown hg _)
  have HB1 : Hid (Below w.heap.size w w1) := Lib.hid (((Below.refl _ _).alloc (Nat.le_refl _) _).grown hg (by simp) (by simp [Value.ownBlock]))
  rw [Nat.zero_add, List.nil_append] at hown
  obtain ⟨A1, c1, hv, hr1⟩ := own_words hown
  subst hv
  have H1 := Lib.hid (And.intro hr1 HB1.out)
  clear hown hg hr1 HB1
  go_wp2_with fail
  refine (add_any k A s c w1 hk (HR.out.1.go H1.out.2) (by omega)).mono ?_
  rintro e w2 ⟨v2, rfl, ho2, hb2⟩
  obtain ⟨A2, c2, hv, hr2⟩ := own_words ho2
  subst hv
  have H2 := Lib.hid (And.intro (H1.out.1.go hb2) (And.intro hr2 (bel_step H1.out.2 hb2)))
  clear ho2 hb2 hr2
  go_wp2_with fail
  refine (less_any k A s c w2 hk (HR.out.1.go H2.out.2.2) (by omega)).mono ?_
  rintro e w3 ⟨v3, rfl, ho3, hb3⟩
  obtain ⟨A3, c3, hv, hr3⟩ := own_words ho3
  subst hv
  have ha : Reads w3 w3.heap.size 1 A2 (modL setW s k).length (wordV (modL setW s k)) := by rw [modL_len]; exact H2.out.2.1.go hb3
  have hb : Reads w3 w3.heap.size 1 A3 (modL clrW s k).length (wordV (modL clrW s k)) := by rw [modL_len]; exact hr3
  have H3 := Lib.hid (And.intro (H2.out.1.go hb3) (And.intro (And.intro ha hb) (bel_step H2.out.2.2 hb3)))
  clear ho3 hb3 hr3 ha hb
  have hA : ∀ j : Int, j ≤ 9223372036854775807 → Calls Tryd.prog 9 #[.slice A2 s.length c2, .int .i64 j] w3 fun e w' => e = .returned (.bool (hasB (modL setW s k) j)) ∧ w3 = w' := by
    intro j hj
    have h := has_any j A2 (modL setW s k) c2 w3 H3.out.2.1.1 hj
    rw [modL_len] at h
    exact h
  have hB : ∀ j : Int, j ≤ 9223372036854775807 → Calls Tryd.prog 9 #[.slice A3 s.length c3, .int .i64 j] w3 fun e w' => e = .returned (.bool (hasB (modL clrW s k) j)) ∧ w3 = w' := by
    intro j hj
    have h := has_any j A3 (modL clrW s k) c3 w3 H3.out.2.1.2 hj
    rw [modL_len] at h
    exact h
  have HAB := Lib.hid (And.intro hA hB)
  clear hA hB
  go_wp2_with fail
  go_loop [9] (fun i => ∃ j : Nat, j ≤ 64 * s.length ∧ i = .int .i64 j) (fun i => 64 * s.length - (intOf i).toNat)
  case atStart => exact ⟨0, Nat.zero_le _, rfl⟩
  case round =>
    obtain ⟨j, hj, rfl⟩ := hrel
    by_cases hlt : j < 64 * s.length
    · by_cases hjk : (j : Int) = k
      · have e1 : ((j : Int) == k) = true := by simp [hjk]
        have e2 : ((j : Int) != k) = false := by simp [hjk]
        clear hjk
        go_wp2_with fail
        go_round
        case rel => exact ⟨j + 1, by omega, by go_num⟩
        case measure => simp [intOf]; omega
      · have e1 : ((j : Int) == k) = false := by simp [hjk]
        have e2 : ((j : Int) != k) = true := by simp [bne, e1]
        have HJ := Lib.hid (And.intro (has_add_other s k j hjk) (has_less_other s k j hjk))
        clear hjk
        go_wp2_with fail
        refine (HAB.out.1 j (by omega)).mono ?_
        rw [HJ.out.1]
        rintro e w4 ⟨rfl, rfl⟩
        go_wp2_with fail
        refine (has_any j A s c w3 (HR.out.1.go H3.out.2.2) (by omega)).mono ?_
        rintro e w4 ⟨rfl, rfl⟩
        go_wp2_with fail
        refine (HAB.out.2 j (by omega)).mono ?_
        rw [HJ.out.2]
        rintro e w4 ⟨rfl, rfl⟩
        go_wp2_with fail
        refine (has_any j A s c w3 (HR.out.1.go H3.out.2.2) (by omega)).mono ?_
        rintro e w4 ⟨rfl, rfl⟩
        go_wp2_with fail
        go_round
        case rel => exact ⟨j + 1, by omega, by go_num⟩
        case measure => simp [intOf]; omega
    · have hjl : (j : Int) = 64 * (s.length : Int) := by omega
      clear hjl
      go_wp2_with fail
      refine (told_any w3 (HR.out.2.below H3.out.2.2 HR.out.2.1)).mono ?_
      rintro e w4 ⟨rfl, hb4⟩
      have H4 := Lib.hid (And.intro (H3.out.1.go hb4) (bel_step H3.out.2.2 hb4))
      have HS4 := Lib.hid (And.intro (H3.out.2.1.1.go hb4) (H3.out.2.1.2.go hb4))
      clear hb4
      go_wp2_with fail
      refine (words_same A A1 s c c1 w4 (HR.out.1.go H4.out.2) H4.out.1 (by omega)).mono ?_
      rintro e w5 ⟨rfl, hb5⟩
      have hA5 : Calls Tryd.prog 9 #[.slice A2 s.length c2, .int .i64 k] w5 fun e w' => e = .returned (.bool (hasB (modL setW s k) k)) ∧ w5 = w' := by
        have h := has_any k A2 (modL setW s k) c2 w5 (HS4.out.1.go hb5) hk
        rw [modL_len] at h
        exact h
      have hB5 : Calls Tryd.prog 9 #[.slice A3 s.length c3, .int .i64 k] w5 fun e w' => e = .returned (.bool (hasB (modL clrW s k) k)) ∧ w5 = w' := by
        have h := has_any k A3 (modL clrW s k) c3 w5 (HS4.out.2.go hb5) hk
        rw [modL_len] at h
        exact h
      rw [HI.out] at hA5
      rw [has_less_self] at hB5
      have H5 := Lib.hid (And.intro hA5 (And.intro hB5 (bel_step H4.out.2 hb5)))
      clear hb5 hA5 hB5
      go_wp2_with fail
      refine H5.out.1.mono ?_
      rintro e w6 ⟨rfl, rfl⟩
      go_wp2_with fail
      refine H5.out.2.1.mono ?_
      rintro e w6 ⟨rfl, rfl⟩
      go_wp2_with fail
      go_ret
      exact ⟨rfl, H5.out.2.2⟩
set_option maxRecDepth 100000 in
set_option maxHeartbeats 4000000 in
theorem one_out (A : Option Addr) (s : List UInt64) (c : Nat) (k : Int) (w : World) (hs : Reads w w.heap.size 1 A s.length (wordV s)) (ht : Tab w) (hl : s.length ≤ 6) (hk : k ≤ 9223372036854775807) (h0 : 0 ≤ k) (h1 : 64 * (s.length : Int) ≤ k) :
    Calls Tryd.prog 6 #[.slice A s.length c, .int .i64 k] w fun e w' => e = .returned (.bool true) ∧ Below w.heap.size w w' := by
  obtain ⟨i0, hi0, hz0, hz1, hz2⟩ := info_parts info43
  have HR := Lib.hid (And.intro hs ht)
  have HI := Lib.hid (has_add_out s h0 h1)
  have hd : decide (k < 64 * (s.length : Int)) = false := decide_eq_false (by omega)
  clear hs ht
  go_enter Tryd.func6, Tryd.ntmps6
  go_wp2_with (at_builtin; refine wpList_append_any _ rfl (.tmp 14) (.tmp 15) _ rfl w.heap.size 43 i0 _ 1 8 Tryd.underlying24 hi0 hz0 hz1 hz2 rfl (by omega) (.slice (some ⟨w.heap.size, 0, none⟩) 0 0) 0 [] rfl (World.ownsRow_made w #[] 0 (Nat.le_refl _) (by simp [maxLen]) (by simp)) w.heap.size A s.length c (wordV s) rfl (HR.out.1.alloc (Nat.le_refl _) _) (wordV_one s) (by simp only [maxLen]; omega) (by omega) (by simp) ?_; intro v1 w1 hown hg _)
  have HB1 : Hid (Below w.heap.size w w1) := Lib.hid (((Below.refl _ _).alloc (Nat.le_refl _) _).grown hg (by simp) (by simp [Value.ownBlock]))
  rw [Nat.zero_add, List.nil_append] at hown
  obtain ⟨A1, c1, hv, hr1⟩ := own_words hown
  subst hv
  have H1 := Lib.hid (And.intro hr1 HB1.out)
  clear hown hg hr1 HB1
  go_wp2_with fail
  refine (add_any k A s c w1 hk (HR.out.1.go H1.out.2) (by omega)).mono ?_
  rintro e w2 ⟨v2, rfl, ho2, hb2⟩
  obtain ⟨A2, c2, hv, hr2⟩ := own_words ho2
  subst hv
  have H2 := Lib.hid (And.intro (H1.out.1.go hb2) (And.intro hr2 (bel_step H1.out.2 hb2)))
  clear ho2 hb2 hr2
  go_wp2_with fail
  refine (less_any k A s c w2 hk (HR.out.1.go H2.out.2.2) (by omega)).mono ?_
  rintro e w3 ⟨v3, rfl, ho3, hb3⟩
  obtain ⟨A3, c3, hv, hr3⟩ := own_words ho3
  subst hv
  have ha : Reads w3 w3.heap.size 1 A2 (modL setW s k).length (wordV (modL setW s k)) := by rw [modL_len]; exact H2.out.2.1.go hb3
  have hb : Reads w3 w3.heap.size 1 A3 (modL clrW s k).length (wordV (modL clrW s k)) := by rw [modL_len]; exact hr3
  have H3 := Lib.hid (And.intro (H2.out.1.go hb3) (And.intro (And.intro ha hb) (bel_step H2.out.2.2 hb3)))
  clear ho3 hb3 hr3 ha hb
  have hA : ∀ j : Int, j ≤ 9223372036854775807 → Calls Tryd.prog 9 #[.slice A2 s.length c2, .int .i64 j] w3 fun e w' => e = .returned (.bool (hasB (modL setW s k) j)) ∧ w3 = w' := by
    intro j hj
    have h := has_any j A2 (modL setW s k) c2 w3 H3.out.2.1.1 hj
    rw [modL_len] at h
    exact h
  have hB : ∀ j : Int, j ≤ 9223372036854775807 → Calls Tryd.prog 9 #[.slice A3 s.length c3, .int .i64 j] w3 fun e w' => e = .returned (.bool (hasB (modL clrW s k) j)) ∧ w3 = w' := by
    intro j hj
    have h := has_any j A3 (modL clrW s k) c3 w3 H3.out.2.1.2 hj
    rw [modL_len] at h
    exact h
  have HAB := Lib.hid (And.intro hA hB)
  clear hA hB
  go_wp2_with fail
  go_loop [9] (fun i => ∃ j : Nat, j ≤ 64 * s.length ∧ i = .int .i64 j) (fun i => 64 * s.length - (intOf i).toNat)
  case atStart => exact ⟨0, Nat.zero_le _, rfl⟩
  case round =>
    obtain ⟨j, hj, rfl⟩ := hrel
    by_cases hlt : j < 64 * s.length
    · by_cases hjk : (j : Int) = k
      · have e1 : ((j : Int) == k) = true := by simp [hjk]
        have e2 : ((j : Int) != k) = false := by simp [hjk]
        clear hjk
        go_wp2_with fail
        go_round
        case rel => exact ⟨j + 1, by omega, by go_num⟩
        case measure => simp [intOf]; omega
      · have e1 : ((j : Int) == k) = false := by simp [hjk]
        have e2 : ((j : Int) != k) = true := by simp [bne, e1]
        have HJ := Lib.hid (And.intro (has_add_other s k j hjk) (has_less_other s k j hjk))
        clear hjk
        go_wp2_with fail
        refine (HAB.out.1 j (by omega)).mono ?_
        rw [HJ.out.1]
        rintro e w4 ⟨rfl, rfl⟩
        go_wp2_with fail
        refine (has_any j A s c w3 (HR.out.1.go H3.out.2.2) (by omega)).mono ?_
        rintro e w4 ⟨rfl, rfl⟩
        go_wp2_with fail
        refine (HAB.out.2 j (by omega)).mono ?_
        rw [HJ.out.2]
        rintro e w4 ⟨rfl, rfl⟩
        go_wp2_with fail
        refine (has_any j A s c w3 (HR.out.1.go H3.out.2.2) (by omega)).mono ?_
        rintro e w4 ⟨rfl, rfl⟩
        go_wp2_with fail
        go_round
        case rel => exact ⟨j + 1, by omega, by go_num⟩
        case measure => simp [intOf]; omega
    · have hjl : (j : Int) = 64 * (s.length : Int) := by omega
      clear hjl
      go_wp2_with fail
      refine (told_any w3 (HR.out.2.below H3.out.2.2 HR.out.2.1)).mono ?_
      rintro e w4 ⟨rfl, hb4⟩
      have H4 := Lib.hid (And.intro (H3.out.1.go hb4) (bel_step H3.out.2.2 hb4))
      have HS4 := Lib.hid (And.intro (H3.out.2.1.1.go hb4) (H3.out.2.1.2.go hb4))
      clear hb4
      go_wp2_with fail
      refine (words_same A A1 s c c1 w4 (HR.out.1.go H4.out.2) H4.out.1 (by omega)).mono ?_
      rintro e w5 ⟨rfl, hb5⟩
      have hA5 : Calls Tryd.prog 9 #[.slice A2 s.length c2, .int .i64 k] w5 fun e w' => e = .returned (.bool (hasB (modL setW s k) k)) ∧ w5 = w' := by
        have h := has_any k A2 (modL setW s k) c2 w5 (HS4.out.1.go hb5) hk
        rw [modL_len] at h
        exact h
      have hB5 : Calls Tryd.prog 9 #[.slice A3 s.length c3, .int .i64 k] w5 fun e w' => e = .returned (.bool (hasB (modL clrW s k) k)) ∧ w5 = w' := by
        have h := has_any k A3 (modL clrW s k) c3 w5 (HS4.out.2.go hb5) hk
        rw [modL_len] at h
        exact h
      rw [HI.out] at hA5
      rw [has_less_self] at hB5
      have H5 := Lib.hid (And.intro hA5 (And.intro hB5 (bel_step H4.out.2 hb5)))
      clear hb5 hA5 hB5
      go_wp2_with fail
      refine H5.out.1.mono ?_
      rintro e w6 ⟨rfl, rfl⟩
      go_wp2_with fail
      refine H5.out.2.1.mono ?_
      rintro e w6 ⟨rfl, rfl⟩
      go_wp2_with fail
      go_ret
      exact ⟨rfl, H5.out.2.2⟩
set_option maxRecDepth 100000 in
set_option maxHeartbeats 4000000 in
theorem one_in (A : Option Addr) (s : List UInt64) (c : Nat) (k : Int) (w : World) (hs : Reads w w.heap.size 1 A s.length (wordV s)) (ht : Tab w) (hl : s.length ≤ 6) (hk : k ≤ 9223372036854775807) (h0 : 0 ≤ k) (h1 : k < 64 * (s.length : Int)) :
    Calls Tryd.prog 6 #[.slice A s.length c, .int .i64 k] w fun e w' => e = .returned (.bool true) ∧ Below w.heap.size w w' := by
  obtain ⟨i0, hi0, hz0, hz1, hz2⟩ := info_parts info43
  have HR := Lib.hid (And.intro hs ht)
  have HI := Lib.hid (has_add_in s h0 h1)
  clear hs ht
  go_enter Tryd.func6, Tryd.ntmps6
  go_wp2_with (at_builtin; refine wpList_append_any _ rfl (.tmp 14) (.tmp 15) _ rfl w.heap.size 43 i0 _ 1 8 Tryd.underlying24 hi0 hz0 hz1 hz2 rfl (by omega) (.slice (some ⟨w.heap.size, 0, none⟩) 0 0) 0 [] rfl (World.ownsRow_made w #[] 0 (Nat.le_refl _) (by simp [maxLen]) (by simp)) w.heap.size A s.length c (wordV s) rfl (HR.out.1.alloc (Nat.le_refl _) _) (wordV_one s) (by simp only [maxLen]; omega) (by omega) (by simp) ?_; intro v1 w1 hown hg _)
  have HB1 : Hid (Below w.heap.size w w1) := Lib.hid (((Below.refl _ _).alloc (Nat.le_refl _) _).grown hg (by simp) (by simp [Value.ownBlock]))
  rw [Nat.zero_add, List.nil_append] at hown
  obtain ⟨A1, c1, hv, hr1⟩ := own_words hown
  subst hv
  have H1 := Lib.hid (And.intro hr1 HB1.out)
  clear hown hg hr1 HB1
  go_wp2_with fail
  refine (add_any k A s c w1 hk (HR.out.1.go H1.out.2) (by omega)).mono ?_
  rintro e w2 ⟨v2, rfl, ho2, hb2⟩
  obtain ⟨A2, c2, hv, hr2⟩ := own_words ho2
  subst hv
  have H2 := Lib.hid (And.intro (H1.out.1.go hb2) (And.intro hr2 (bel_step H1.out.2 hb2)))
  clear ho2 hb2 hr2
  go_wp2_with fail
  refine (less_any k A s c w2 hk (HR.out.1.go H2.out.2.2) (by omega)).mono ?_
  rintro e w3 ⟨v3, rfl, ho3, hb3⟩
  obtain ⟨A3, c3, hv, hr3⟩ := own_words ho3
  subst hv
  have ha : Reads w3 w3.heap.size 1 A2 (modL setW s k).length (wordV (modL setW s k)) := by rw [modL_len]; exact H2.out.2.1.go hb3
  have hb : Reads w3 w3.heap.size 1 A3 (modL clrW s k).length (wordV (modL clrW s k)) := by rw [modL_len]; exact hr3
  have H3 := Lib.hid (And.intro (H2.out.1.go hb3) (And.intro (And.intro ha hb) (bel_step H2.out.2.2 hb3)))
  clear ho3 hb3 hr3 ha hb
  have hA : ∀ j : Int, j ≤ 9223372036854775807 → Calls Tryd.prog 9 #[.slice A2 s.length c2, .int .i64 j] w3 fun e w' => e = .returned (.bool (hasB (modL setW s k) j)) ∧ w3 = w' := by
    intro j hj
    have h := has_any j A2 (modL setW s k) c2 w3 H3.out.2.1.1 hj
    rw [modL_len] at h
    exact h
  have hB : ∀ j : Int, j ≤ 9223372036854775807 → Calls Tryd.prog 9 #[.slice A3 s.length c3, .int .i64 j] w3 fun e w' => e = .returned (.bool (hasB (modL clrW s k) j)) ∧ w3 = w' := by
    intro j hj
    have h := has_any j A3 (modL clrW s k) c3 w3 H3.out.2.1.2 hj
    rw [modL_len] at h
    exact h
  have HAB := Lib.hid (And.intro hA hB)
  clear hA hB
  go_wp2_with fail
  go_loop [9] (fun i => ∃ j : Nat, j ≤ 64 * s.length ∧ i = .int .i64 j) (fun i => 64 * s.length - (intOf i).toNat)
  case atStart => exact ⟨0, Nat.zero_le _, rfl⟩
  case round =>
    obtain ⟨j, hj, rfl⟩ := hrel
    by_cases hlt : j < 64 * s.length
    · by_cases hjk : (j : Int) = k
      · have e1 : ((j : Int) == k) = true := by simp [hjk]
        have e2 : ((j : Int) != k) = false := by simp [hjk]
        clear hjk
        go_wp2_with fail
        go_round
        case rel => exact ⟨j + 1, by omega, by go_num⟩
        case measure => simp [intOf]; omega
      · have e1 : ((j : Int) == k) = false := by simp [hjk]
        have e2 : ((j : Int) != k) = true := by simp [bne, e1]
        have HJ := Lib.hid (And.intro (has_add_other s k j hjk) (has_less_other s k j hjk))
        clear hjk
        go_wp2_with fail
        refine (HAB.out.1 j (by omega)).mono ?_
        rw [HJ.out.1]
        rintro e w4 ⟨rfl, rfl⟩
        go_wp2_with fail
        refine (has_any j A s c w3 (HR.out.1.go H3.out.2.2) (by omega)).mono ?_
        rintro e w4 ⟨rfl, rfl⟩
        go_wp2_with fail
        refine (HAB.out.2 j (by omega)).mono ?_
        rw [HJ.out.2]
        rintro e w4 ⟨rfl, rfl⟩
        go_wp2_with fail
        refine (has_any j A s c w3 (HR.out.1.go H3.out.2.2) (by omega)).mono ?_
        rintro e w4 ⟨rfl, rfl⟩
        go_wp2_with fail
        go_round
        case rel => exact ⟨j + 1, by omega, by go_num⟩
        case measure => simp [intOf]; omega
    · have hjl : (j : Int) = 64 * (s.length : Int) := by omega
      clear hjl
      go_wp2_with fail
      refine (told_any w3 (HR.out.2.below H3.out.2.2 HR.out.2.1)).mono ?_
      rintro e w4 ⟨rfl, hb4⟩
      have H4 := Lib.hid (And.intro (H3.out.1.go hb4) (bel_step H3.out.2.2 hb4))
      have HS4 := Lib.hid (And.intro (H3.out.2.1.1.go hb4) (H3.out.2.1.2.go hb4))
      clear hb4
      go_wp2_with fail
      refine (words_same A A1 s c c1 w4 (HR.out.1.go H4.out.2) H4.out.1 (by omega)).mono ?_
      rintro e w5 ⟨rfl, hb5⟩
      have hA5 : Calls Tryd.prog 9 #[.slice A2 s.length c2, .int .i64 k] w5 fun e w' => e = .returned (.bool (hasB (modL setW s k) k)) ∧ w5 = w' := by
        have h := has_any k A2 (modL setW s k) c2 w5 (HS4.out.1.go hb5) hk
        rw [modL_len] at h
        exact h
      have hB5 : Calls Tryd.prog 9 #[.slice A3 s.length c3, .int .i64 k] w5 fun e w' => e = .returned (.bool (hasB (modL clrW s k) k)) ∧ w5 = w' := by
        have h := has_any k A3 (modL clrW s k) c3 w5 (HS4.out.2.go hb5) hk
        rw [modL_len] at h
        exact h
      rw [HI.out] at hA5
      rw [has_less_self] at hB5
      have H5 := Lib.hid (And.intro hA5 (And.intro hB5 (bel_step H4.out.2 hb5)))
      clear hb5 hA5 hB5
      go_wp2_with fail
      refine H5.out.1.mono ?_
      rintro e w6 ⟨rfl, rfl⟩
      go_wp2_with fail
      refine H5.out.2.1.mono ?_
      rintro e w6 ⟨rfl, rfl⟩
      go_wp2_with fail
      go_ret
      exact ⟨rfl, H5.out.2.2⟩
set_option maxHeartbeats 1000000 in
theorem one_long (A : Option Addr) (n c : Nat) (k : Int) (w : World) (ht : Tab w) (h : 6 < n) :
    Calls Tryd.prog 6 #[.slice A n c, .int .i64 k] w fun e w' => e = .returned (.bool true) ∧ Below w.heap.size w w' := by
  have HT := Lib.hid ht
  clear ht
  go_enter Tryd.func6, Tryd.ntmps6
  go_wp2_with fail
  refine (told_any w HT.out).mono ?_
  rintro e w1 ⟨rfl, hb1⟩
  have HB := Lib.hid hb1
  clear hb1
  go_wp2_with fail
  go_ret
  exact ⟨rfl, HB.out⟩
theorem one_any (A : Option Addr) (s : List UInt64) (c : Nat) (k : Int) (w : World) (hs : Reads w w.heap.size 1 A s.length (wordV s)) (ht : Tab w) (hk : k ≤ 9223372036854775807) :
    Calls Tryd.prog 6 #[.slice A s.length c, .int .i64 k] w fun e w' => e = .returned (.bool true) ∧ Below w.heap.size w w' := by
  by_cases h : 6 < s.length
  · exact one_long A _ c k w ht h
  · by_cases h0 : k < 0
    · exact one_neg A s c k w hs ht (by omega) hk h0
    · by_cases h1 : k < 64 * (s.length : Int)
      · exact one_in A s c k w hs ht (by omega) hk (by omega) h1
      · exact one_out A s c k w hs ht (by omega) hk (by omega) (by omega)
end Go.Proofs.YtfmdloomjnmpgaaDoor
