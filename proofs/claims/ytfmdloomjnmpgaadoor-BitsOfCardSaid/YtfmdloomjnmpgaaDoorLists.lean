/-
  BitsLists: a set that is made of its own list is itself; the list rises, and has as many as are counted.
-/
import Derived.Test.YtfmdloomjnmpgaaDoorAsks
namespace Go.Proofs.YtfmdloomjnmpgaaDoor
open Go.RowKit
set_option linter.unusedVariables false

theorem lst_mem {l : List UInt64} {n : Nat} {x : Int} (h : x ∈ lst l n) : ∃ q : Nat, x = (q : Int) ∧ q < n ∧ bitAt l q = true := by
  simp only [lst, List.mem_map, List.mem_filter, List.mem_range] at h
  obtain ⟨q, ⟨h1, h2⟩, rfl⟩ := h
  exact ⟨q, rfl, h1, h2⟩
theorem mem_lst {l : List UInt64} {n q : Nat} (h1 : q < n) (h2 : bitAt l q = true) : (q : Int) ∈ lst l n := by
  simp only [lst, List.mem_map, List.mem_filter, List.mem_range]
  exact ⟨q, ⟨h1, h2⟩, rfl⟩
theorem lst_rises (l : List UInt64) (n : Nat) : (lst l n).Pairwise (· < ·) := by
  unfold lst
  refine List.Pairwise.map _ ?_ ((List.pairwise_lt_range (n := n)).filter _)
  intro a b h
  omega
theorem lst_next {l : List UInt64} {n i : Nat} {x y : Int} (hx : (lst l n)[i]? = some x) (hy : (lst l n)[i + 1]? = some y) : x < y := by
  have h := List.pairwise_iff_getElem.1 (lst_rises l n)
  have h1 : i + 1 < (lst l n).length := by
    rcases Nat.lt_or_ge (i + 1) (lst l n).length with h1 | h1
    · exact h1
    · rw [List.getElem?_eq_none h1] at hy; cases hy
  have := h i (i + 1) (by omega) h1 (by omega)
  rw [List.getElem?_eq_getElem (by omega)] at hx hy
  cases hx
  cases hy
  exact this
theorem bitAt_put {ws : List UInt64} {q : Nat} (h : q / 64 < ws.length) (k : Nat) : bitAt (modL setW ws q) k = (bitAt ws k || decide (k = q)) := by
  have hx : ws[q / 64]? = some (ws[q / 64]'h) := List.getElem?_eq_getElem h
  rw [modL_in _ _ hx]
  by_cases h2 : k / 64 = q / 64
  · rw [bitAt_in (l := ws.set (q / 64) _) (k := k) (x := setW (ws[q / 64]'h) (q % 64)) (by rw [h2]; exact List.getElem?_set_self h), bitAt_in (l := ws) (k := k) (by rw [h2]; exact hx), setW_bit _ (Nat.mod_lt _ (by decide))]
    congr 1
    apply decide_eq_decide.2
    omega
  · have h3 : k ≠ q := fun e => h2 (by rw [e])
    simp only [bitAt, List.getD, h3, decide_false, Bool.or_false]
    rw [List.getElem?_set_ne (by omega)]
/-- What a list of numbers in range makes of words. -/
theorem putAll_bits (n : Int) : ∀ (l : List Int) (ws : List UInt64), (∀ x ∈ l, 0 ≤ x ∧ x < n) → n ≤ 64 * (ws.length : Int) →
    ∃ r, putAll n l ws = some r ∧ r.length = ws.length ∧ ∀ k : Nat, bitAt r k = (bitAt ws k || decide ((k : Int) ∈ l)) := by
  intro l
  induction l with
  | nil => intro ws _ _; exact ⟨ws, rfl, rfl, by simp⟩
  | cons x l ih =>
    intro ws hl hn
    obtain ⟨h0, h1⟩ := hl x (List.mem_cons_self ..)
    obtain ⟨q, rfl⟩ : ∃ q : Nat, x = (q : Int) := ⟨x.toNat, by omega⟩
    obtain ⟨r, hr, hlen, hb⟩ := ih (modL setW ws q) (fun y hy => hl y (List.mem_cons_of_mem _ hy)) (by rw [modL_len]; exact hn)
    refine ⟨r, ?_, by rw [hlen, modL_len], fun k => ?_⟩
    · simp only [putAll]
      rw [if_neg (by omega)]
      exact hr
    · rw [hb k, bitAt_put (by omega) k, Bool.or_assoc]
      congr 1
      by_cases hk : k = q
      · subst hk
        simp
      · have : ¬ (k : Int) = (q : Int) := by omega
        simp [List.mem_cons, hk, this]
theorem zeros_bit (m k : Nat) : bitAt (zeros m) k = false := by
  by_cases h : k / 64 < m
  · rw [bitAt_in (x := 0) (by simp [zeros, h])]
    simp
  · exact bitAt_out (by simp [zeros]; omega)
theorem words_ext {a b : List UInt64} (hl : a.length = b.length) (h : ∀ k, bitAt a k = bitAt b k) : a = b := by
  refine same_all hl fun j hj => ?_
  have hx : a[j]? = some (a[j]'hj) := List.getElem?_eq_getElem hj
  have hy : b[j]? = some (b[j]'(by omega)) := List.getElem?_eq_getElem (by omega)
  rw [hx, hy]
  congr 1
  apply UInt64.toNat_inj.1
  apply Nat.eq_of_testBit_eq
  intro i
  by_cases hi : i < 64
  · have := h (64 * j + i)
    rw [bitAt_word hx hi, bitAt_word hy hi] at this
    exact this
  · have hbig : ∀ x : UInt64, x.toNat.testBit i = false := fun x => Nat.testBit_lt_two_pow (Nat.lt_of_lt_of_le (u64_lt x) (Nat.pow_le_pow_right (by decide : 0 < 2) (by omega : 64 ≤ i)))
    rw [hbig, hbig]
theorem of_own_list (s : List UInt64) (hs : s.length ≤ 10) : ofAns (lst s (64 * s.length)) (64 * (s.length : Int)) = (s, 0) := by
  have hz : (zeros s.length).length = s.length := by simp [zeros]
  obtain ⟨r, hr, hlen, hb⟩ := putAll_bits (64 * (s.length : Int)) (lst s (64 * s.length)) (zeros s.length) (fun x hx => by
    obtain ⟨q, rfl, h1, _⟩ := lst_mem hx
    omega) (by rw [hz]; omega)
  have e : r = s := by
    refine words_ext (by rw [hlen, hz]) fun k => ?_
    rw [hb k, zeros_bit, Bool.false_or]
    by_cases hk : k < 64 * s.length
    · cases hbk : bitAt s k with
      | true => simpa using mem_lst hk hbk
      | false =>
        have : ¬ (k : Int) ∈ lst s (64 * s.length) := fun hm => by
          obtain ⟨q, hq, _, h2⟩ := lst_mem hm
          obtain rfl : k = q := by omega
          rw [hbk] at h2
          cases h2
        simpa using this
    · rw [bitAt_out (l := s) (by omega)]
      have : ¬ (k : Int) ∈ lst s (64 * s.length) := fun hm => by
        obtain ⟨q, hq, h1, _⟩ := lst_mem hm
        omega
      simpa using this
  have ho : ofR (lst s (64 * s.length)) (64 * (s.length : Int)) = some s := by
    rw [← e]
    rw [e]
    have h64 : (64 * (s.length : Int)) = ((64 * s.length : Nat) : Int) := by omega
    rw [h64, ofR_in _ (by omega), show (64 * s.length + 63) / 64 = s.length from by omega, ← h64, hr, e]
  simp only [ofAns, ho]
theorem has_lst {s : List UInt64} {n i : Nat} {x : Int} (h : (lst s n)[i]? = some x) : hasB s x = true ∧ 0 ≤ x ∧ x < (n : Int) := by
  obtain ⟨q, rfl, h1, h2⟩ := lst_mem (List.mem_of_getElem? h)
  exact ⟨by simp [hasB, h2], by omega, by omega⟩

theorem has_is {w w1 : World} (S : Option Addr) (s : List UInt64) (x : Int) (c : Nat) (hs : Reads w w.heap.size 1 S s.length (wordV s)) (hb : Below w.heap.size w w1) (hx : hasB s x = true) (hx2 : x ≤ 9223372036854775807) (n : Nat) :
    Calls Tryd.prog 9 #[.slice S s.length c, .int .i64 x] (w1.drewN n) fun e w' => e = .returned (.bool true) ∧ w' = w1.drewN n := by
  have h1 : Reads w1 w1.heap.size 1 S s.length (wordV s) := hs.go hb
  have h := has_any x S s c (w1.drewN n) h1 hx2
  rw [hx] at h
  exact h.mono fun e w' ⟨h1, h2⟩ => ⟨h1, h2.symm⟩

set_option maxRecDepth 100000 in
set_option maxHeartbeats 4000000 in
theorem lists_go (S : Option Addr) (s : List UInt64) (c : Nat) (w : World) (hs : Reads w w.heap.size 1 S s.length (wordV s)) (ht : Tab w) (hl : s.length ≤ 10) :
    Calls Tryd.prog 7 #[.slice S s.length c] w fun e w' => e = .returned (.bool true) ∧ Below w.heap.size w w' := by
  have HR := Lib.hid (And.intro hs ht)
  clear hs ht
  have hlst := lst_len s (64 * s.length)
  have HO := Lib.hid (And.intro (of_own_list s hl) (pop_lst s))
  go_enter Tryd.func7, Tryd.ntmps7
  go_wp2_with fail
  refine (list_any S s c w HR.out.1 (by omega) HR.out.2).mono ?_
  rintro e w1 ⟨v1, rfl, hg1⟩
  obtain ⟨A1, c1, hv, hr1⟩ := own_ints hg1
  subst hv
  have HX : Hid (∀ i x, (lst s (64 * s.length))[i]? = some x → hasB s x = true ∧ 0 ≤ x ∧ x < ((64 * s.length : Nat) : Int)) := Lib.hid fun i x h => has_lst h
  have HN : Hid (∀ i x y, (lst s (64 * s.length))[i]? = some x → (lst s (64 * s.length))[i + 1]? = some y → x < y) := Lib.hid fun i x y h k => lst_next h k
  have H1 := Lib.hid (And.intro hr1 hg1.2)
  clear hr1 hg1
  obtain ⟨l, hle⟩ : ∃ l, lst s (64 * s.length) = l := ⟨_, rfl⟩
  rw [hle] at H1 HX HN HO hlst ⊢
  have HL := Lib.hid hle
  clear hle
  go_wp2_with fail
  go_loopw [4] (fun i wr => ∃ k n : Nat, k ≤ l.length ∧ i = .int .i64 k ∧ wr = w1.drewN n) (fun i _ => l.length - (intOf i).toNat)
  case atStart => exact ⟨0, 0, Nat.zero_le _, rfl, rfl⟩
  case round =>
    obtain ⟨k, n, hk, rfl, rfl⟩ := hrel
    by_cases hlt : k < l.length
    · obtain ⟨ad, x, rfl, _, hx, hc⟩ := ints_at H1.out.1 hlt
      obtain ⟨hx1, hx2, hx3⟩ := HX.out k x hx
      have HH := Lib.hid (And.intro hx hx1)
      clear hx hx1
      by_cases hk0 : (k : Int) ≤ 0
      · have hd : decide (0 < k) = false := decide_eq_false (by omega)
        have i1 : (0 : Int) ≤ (k : Int) := by omega
        have i2 : (k : Int) < (l.length : Int) := by omega
        go_wp2_with fail
        go_quiet ((go_at_call 9; exact (has_is S s x c HR.out.1 H1.out.2 HH.out.2 (by omega) _).mono fun e w' ⟨he, hw⟩ => ⟨he, _, hw⟩))
        go_wp2_with fail
        go_roundw
        case rel => exact ⟨k + 1, _, by omega, by go_num, rfl⟩
        case measure => simp [intOf]; omega
      · have hd : decide (0 < k) = true := decide_eq_true (by omega)
        have i1 : (0 : Int) ≤ (k : Int) := by omega
        have i2 : (k : Int) < (l.length : Int) := by omega
        obtain ⟨ad2, y, had, _, hy, hc2⟩ := ints_at H1.out.1 (show k - 1 < l.length by omega)
        obtain rfl : ad = ad2 := Option.some.inj had
        have hyx : y < x := HN.out (k - 1) y x hy (by rw [show k - 1 + 1 = k from by omega]; exact HH.out.1)
        have hd2 : decide (x ≤ y) = false := decide_eq_false (by omega)
        have w1' : IntKind.i64.wrap ((k : Int) - 1) = (k : Int) - 1 := IntWalk.i64_in _ (by omega)
        have w2' : ((k : Int) - 1).toNat = k - 1 := by omega
        have w3' : 0 ≤ (k : Int) - 1 := by omega
        have w4' : (k : Int) - 1 < (l.length : Int) := by omega
        have w5' : (1 : Int) ≤ (k : Int) := by omega
        clear hy had hyx
        go_wp2_with fail
        go_quiet ((go_at_call 9; exact (has_is S s x c HR.out.1 H1.out.2 HH.out.2 (by omega) _).mono fun e w' ⟨he, hw⟩ => ⟨he, _, hw⟩))
        clear w1' w2' hd2
        go_wp2_with fail
        go_roundw
        case rel => exact ⟨k + 1, _, by omega, by go_num, rfl⟩
        case measure => simp [intOf]; omega
    · have hkl : k = l.length := by omega
      subst hkl
      have HB : Hid (Below w.heap.size w (w1.drewN n)) := Lib.hid (bel_step H1.out.2 (bel_drewN _ _))
      have HL1 : Hid (Reads (w1.drewN n) (w1.drewN n).heap.size 1 A1 l.length (intV l)) := Lib.hid H1.out.1
      generalize w1.drewN n = W at *
      go_wp2_with fail
      refine (of_any A1 l c1 (64 * (s.length : Int)) W HL1.out (by omega)).mono ?_
      rw [HO.out.1]
      rintro e w2 ⟨A2, c2, rfl, hr2, hb2⟩
      have H2 := Lib.hid (And.intro hr2 (And.intro (HL1.out.go hb2) (bel_step HB.out hb2)))
      clear hr2 hb2
      go_wp2_with fail
      refine (told_any w2 (HR.out.2.below H2.out.2.2 HR.out.2.1)).mono ?_
      rintro e w3 ⟨rfl, hb3⟩
      have H3 := Lib.hid (And.intro (H2.out.1.go hb3) (And.intro (H2.out.2.1.go hb3) (bel_step H2.out.2.2 hb3)))
      clear hb3
      go_wp2_with fail
      refine (words_same A2 S s c2 c w3 H3.out.1 (HR.out.1.go H3.out.2.2) (by omega)).mono ?_
      rintro e w4 ⟨rfl, hb4⟩
      have H4 := Lib.hid (And.intro (H3.out.1.go hb4) (And.intro (H3.out.2.1.go hb4) (bel_step H3.out.2.2 hb4)))
      clear hb4
      go_wp2_with fail
      refine (count_any S s c w4 (HR.out.1.go H4.out.2.2) (by omega)).mono ?_
      rw [HO.out.2]
      rintro e w5 ⟨rfl, rfl⟩
      go_wp2_with fail
      refine (list_any A2 s c2 w4 H4.out.1 (by omega) (HR.out.2.below H4.out.2.2 HR.out.2.1)).mono ?_
      rw [HL.out]
      rintro e w5 ⟨v5, rfl, hg5⟩
      obtain ⟨A5, c5, hv, hr5⟩ := own_ints hg5
      subst hv
      have H5 := Lib.hid (And.intro hr5 (And.intro (H4.out.2.1.go hg5.2) (bel_step H4.out.2.2 hg5.2)))
      clear hr5 hg5
      go_wp2_with fail
      refine (ints_same A5 A1 l c5 c1 w5 H5.out.1 H5.out.2.1 (by omega)).mono ?_
      rintro e w6 ⟨rfl, hb6⟩
      have H6 := Lib.hid (bel_step H5.out.2.2 hb6)
      clear hb6
      go_wp2_with fail
      go_ret
      exact ⟨rfl, H6.out⟩
set_option maxHeartbeats 1000000 in
theorem lists_long (S : Option Addr) (n c : Nat) (w : World) (ht : Tab w) (h : 10 < n) :
    Calls Tryd.prog 7 #[.slice S n c] w fun e w' => e = .returned (.bool true) ∧ Below w.heap.size w w' := by
  have HT := Lib.hid ht
  clear ht
  go_enter Tryd.func7, Tryd.ntmps7
  go_wp2_with fail
  refine (told_any w HT.out).mono ?_
  rintro e w1 ⟨rfl, hb1⟩
  have HB := Lib.hid hb1
  clear hb1
  go_wp2_with fail
  go_ret
  exact ⟨rfl, HB.out⟩
theorem lists_any (S : Option Addr) (s : List UInt64) (c : Nat) (w : World) (hs : Reads w w.heap.size 1 S s.length (wordV s)) (ht : Tab w) :
    Calls Tryd.prog 7 #[.slice S s.length c] w fun e w' => e = .returned (.bool true) ∧ Below w.heap.size w w' := by
  by_cases h : 10 < s.length
  · exact lists_long S _ c w ht h
  · exact lists_go S s c w hs ht (by omega)
end Go.Proofs.YtfmdloomjnmpgaaDoor
