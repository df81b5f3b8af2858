/-
  'List': a set's numbers as they rise, bit by bit from the lowest.
-/
import Derived.Test.YtfmdloomjnmpgaaDoorBits
namespace Go.Proofs.YtfmdloomjnmpgaaDoor
open Go.RowKit
set_option linter.unusedVariables false

/-- y is what is left of x from bit j on. -/
def LeftOf (x j y : Nat) : Prop := ∀ i, y.testBit i = (decide (j ≤ i) && x.testBit i)
theorem leftOf_start (x : Nat) : LeftOf x 0 x := by intro i; simp
theorem and_pred {y t m : Nat} (h : y = 2 ^ t * (2 * m + 1)) : y &&& (y - 1) = 2 ^ t * (2 * m) := by
  have hp : 0 < 2 ^ t := Nat.two_pow_pos t
  rw [and_split t y (y - 1)]
  have e1 : y / 2 ^ t = 2 * m + 1 := by rw [h]; exact Nat.mul_div_cancel_left _ hp
  have e2 : y % 2 ^ t = 0 := by rw [h]; exact Nat.mul_mod_right _ _
  have e3 : (y - 1) / 2 ^ t = 2 * m := by
    have e : y - 1 = 2 ^ t * (2 * m) + (2 ^ t - 1) := by rw [h, Nat.mul_add]; omega
    rw [e, Nat.mul_add_div hp, Nat.div_eq_of_lt (by omega)]
    rfl
  rw [e1, e2, e3, Nat.zero_and, Nat.add_zero]
  congr 1
  rw [and_split 1 (2 * m + 1) (2 * m)]
  simp only [Nat.pow_one]
  have d1 : (2 * m + 1) / 2 = m := by omega
  have d2 : 2 * m / 2 = m := by omega
  have d3 : 2 * m % 2 = 0 := by omega
  rw [d1, d2, d3, Nat.and_self, Nat.and_zero]
  omega
theorem testBit_low {y t m : Nat} (h : y = 2 ^ t * (2 * m + 1)) (i : Nat) : y.testBit i = (decide (i = t) || (2 ^ t * (2 * m)).testBit i) := by
  rw [h, Nat.testBit_two_pow_mul, Nat.testBit_two_pow_mul]
  rcases Nat.lt_trichotomy i t with h1 | h1 | h1
  · simp [Nat.not_le.2 h1, Nat.ne_of_lt h1]
  · subst h1
    simp [Nat.testBit_zero]
  · obtain ⟨d, rfl⟩ : ∃ d, i = t + (d + 1) := ⟨i - t - 1, by omega⟩
    have e : t + (d + 1) - t = d + 1 := by omega
    rw [e, Nat.testBit_succ, Nat.testBit_succ, show (2 * m + 1) / 2 = m from by omega, show 2 * m / 2 = m from by omega]
    simp
theorem testBit_high {t m : Nat} (i : Nat) (h : i ≤ t) : (2 ^ t * (2 * m)).testBit i = false := by
  rw [Nat.testBit_two_pow_mul]
  rcases Nat.lt_or_ge i t with h1 | h1
  · simp [Nat.not_le.2 h1]
  · obtain rfl : i = t := by omega
    simp [Nat.testBit_zero]
theorem bitAt_word {l : List UInt64} {k : Nat} {x : UInt64} (h : l[k]? = some x) {j : Nat} (hj : j < 64) : bitAt l (64 * k + j) = x.toNat.testBit j := by
  have e1 : (64 * k + j) / 64 = k := by omega
  have e2 : (64 * k + j) % 64 = j := by omega
  rw [bitAt_in (k := 64 * k + j) (x := x) (by rw [e1]; exact h), e2]
theorem lst_skip {l : List UInt64} {n : Nat} : ∀ d, (∀ i, i < d → bitAt l (n + i) = false) → lst l (n + d) = lst l n := by
  intro d
  induction d with
  | zero => intro _; rfl
  | succ d ih =>
    intro h
    rw [← Nat.add_assoc, lst_no (h d (by omega)), ih fun i hi => h i (by omega)]
/-- What the lowest bit tells. -/
theorem left_step {l : List UInt64} {k : Nat} {x : UInt64} (hx : l[k]? = some x) {j y : Nat} (hj : j ≤ 64) (hy : LeftOf x.toNat j y) (hy0 : y ≠ 0) (hlt : y < 18446744073709551616) :
    ∃ t, Lib.ctz 64 y = t ∧ j ≤ t ∧ t < 64 ∧ LeftOf x.toNat (t + 1) (y &&& (y - 1)) ∧ y &&& (y - 1) < y ∧ lst l (64 * k + (t + 1)) = lst l (64 * k + j) ++ [((64 * k + t : Nat) : Int)] := by
  obtain ⟨m, hm, ht⟩ := Lib.ctzFrom_spec 64 y (by omega) hlt
  have e : Lib.ctz 64 y = Lib.ctzFrom 64 y := by simp [Lib.ctz, hy0]
  generalize Lib.ctzFrom 64 y = t at *
  have hbt : y.testBit t = true := by rw [testBit_low hm]; simp
  have hjt : j ≤ t := by
    have := hy t
    rw [hbt] at this
    simp at this
    exact this.1
  have hxt : x.toNat.testBit t = true := by
    have := hy t
    rw [hbt] at this
    simp at this
    exact this.2
  have hand := and_pred hm
  refine ⟨t, e, hjt, ht, ?_, ?_, ?_⟩
  · intro i
    rw [hand]
    have h1 := hy i
    rw [testBit_low hm] at h1
    rcases Nat.lt_trichotomy i t with h2 | h2 | h2
    · rw [testBit_high i (by omega)]
      simp [show ¬ t + 1 ≤ i from by omega]
    · rw [testBit_high i (by omega)]
      simp [show ¬ t + 1 ≤ i from by omega]
    · have h3 : i ≠ t := by omega
      simp [h3] at h1
      rw [h1]
      simp [show t + 1 ≤ i from by omega, show j ≤ i from by omega]
  · rw [hand, hm]
    have hp : 0 < 2 ^ t := Nat.two_pow_pos t
    rw [Nat.mul_add]
    omega
  · have hs : lst l (64 * k + t) = lst l (64 * k + j) := by
      have := lst_skip (l := l) (n := 64 * k + j) (t - j) (fun i hi => by
        rw [Nat.add_assoc, bitAt_word hx (by omega)]
        have h1 := hy (j + i)
        rw [testBit_low hm, testBit_high _ (by omega)] at h1
        have h2 : j + i ≠ t := by omega
        simp [h2] at h1
        exact h1)
      rw [← this]
      congr 1
      omega
    rw [← Nat.add_assoc, lst_yes (by rw [bitAt_word hx ht]; exact hxt), hs]
theorem left_done {l : List UInt64} {k : Nat} {x : UInt64} (hx : l[k]? = some x) {j : Nat} (hj : j ≤ 64) (hy : LeftOf x.toNat j 0) : lst l (64 * (k + 1)) = lst l (64 * k + j) := by
  have := lst_skip (l := l) (n := 64 * k + j) (64 - j) (fun i hi => by
    rw [Nat.add_assoc, bitAt_word hx (by omega)]
    have h1 := hy (j + i)
    simp at h1
    exact h1)
  rw [← this]
  congr 1
  omega
theorem tz_nat (y : Nat) (hy : y < 18446744073709551616) (w : World) (hy0 : y ≠ 0) (ht : Tab w) :
    Calls Tryd.prog 25 #[.int .u64 y] w fun e w' => e = .returned (.int .i64 (Lib.ctz 64 y)) ∧ w = w' := by
  obtain ⟨hlow, hk⟩ := Lib.lowest_bit 64 y hy0 hy
  obtain ⟨hi, htab⟩ := Lib.deBruijn64_at _ hk
  have hcell := ht.2 _ hi
  rw [htab] at hcell
  exact tz_core y _ _ w (by simp; omega) (tz_key y _ hy hy0 hlow) hi hk hcell
theorem and_pred_int (y : Nat) (hy : y < 18446744073709551616) (h0 : y ≠ 0) : bits .and .u64 (y : Int) (IntKind.u64.wrap ((y : Int) - 1)) = ((y &&& (y - 1) : Nat) : Int) := by
  have e : IntKind.u64.wrap ((y : Int) - 1) = ((y - 1 : Nat) : Int) := by rw [IntKind.wrap_u64]; omega
  rw [e, bits_and_u64_nat y _ hy (by omega)]

set_option maxHeartbeats 2000000 in
theorem list_any (A : Option Addr) (l : List UInt64) (c : Nat) (w : World) (hr : Reads w w.heap.size 1 A l.length (wordV l)) (hl : l.length ≤ 100) (ht : Tab w) :
    Calls Tryd.prog 16 #[.slice A l.length c] w fun e w' => ∃ v, e = .returned v ∧ Got w (lst l (64 * l.length)) v w' := by
  obtain ⟨i0, hi0, hz0, hz1, hz2⟩ := info_parts info3
  have HR := Lib.hid (And.intro hr ht)
  clear hr ht
  go_enter Tryd.func16, Tryd.ntmps16
  go_wp2_with fail
  go_loopw [3, 8] (fun v i wr => ∃ k : Nat, k ≤ l.length ∧ i = .int .i64 k ∧ Hid (Got w (lst l (64 * k)) v wr)) (fun _ i _ => l.length - (intOf i).toNat)
  case atStart => exact ⟨0, Nat.zero_le _, rfl, Lib.hid (got_nil w)⟩
  case round =>
    obtain ⟨k, hk, rfl, HG⟩ := hrel
    rename_i v i
    obtain ⟨A3, c3, hv, _⟩ := own_slice HG.out.1
    subst hv
    obtain ⟨wo, rfl⟩ : ∃ wo : World, wo = wr := ⟨_, rfl⟩
    by_cases hlt : k < l.length
    · obtain ⟨ad, x, rfl, hab, hx, hc0⟩ := words_at HR.out.1 hlt
      have hc : wo.cell? (ad.add k) = some (.int .u64 x.toNat) := (HG.out.2.cell (p := ad.add k) (by rw [block_of_add]; exact hab)).trans hc0
      have HX := Lib.hid hx
      clear hx hc0 hab
      go_wp2_with fail
      go_loopw [3, 5] (fun v y wr => ∃ j n : Nat, j ≤ 64 ∧ y = .int .u64 n ∧ Hid (n < 18446744073709551616 ∧ LeftOf x.toNat j n) ∧ Hid (Got w (lst l (64 * k + j)) v wr)) (fun _ y _ => (intOf y).toNat)
      case atStart => exact ⟨0, x.toNat, by omega, rfl, Lib.hid ⟨u64_lt x, leftOf_start _⟩, HG⟩
      case round =>
        obtain ⟨j, y, hj, rfl, HY, HH⟩ := hrel
        clear HG hc
        rename_i v2 y2
        obtain ⟨A4, c4, hv, _⟩ := own_slice HH.out.1
        subst hv
        by_cases hy0 : y = 0
        · have hd : Hid (lst l (64 * (k + 1)) = lst l (64 * k + j)) := Lib.hid (left_done HX.out hj (by have := HY.out.2; rw [hy0] at this; exact this))
          subst hy0
          go_wp2_with fail
          go_roundw
          case rel => exact ⟨k + 1, by omega, by go_num, by rw [hd.out]; exact HH⟩
          case measure => simp [intOf]; omega
        · obtain ⟨t, et, hjt, ht64, hlo, hdec, hlst⟩ := left_step HX.out hj HY.out.2 hy0 HY.out.1
          have HT := Lib.hid (And.intro et (And.intro hlo (And.intro hlst (and_pred_int y HY.out.1 hy0))))
          have hz : ((y : Int) == 0) = false := by simp [hy0]
          have hz2' : ((y : Int) != 0) = true := by simp [hy0]
          have hlen := lst_len l (64 * k + j)
          clear et hlo hlst
          have H0 := Lib.hid hy0
          clear hy0
          go_wp2_with fail
          refine (tz_nat y HY.out.1 wr H0.out (HR.out.2.below HH.out.2 HR.out.2.1)).mono ?_
          rw [HT.out.1]
          rintro e w1 ⟨rfl, rfl⟩
          go_wp2_with (at_builtin; refine wpList_append_any _ rfl (.tmp 19) (.tmp 25) _ rfl w.heap.size 3 i0 _ 1 8 Tryd.underlying22 hi0 hz0 hz1 hz2 rfl (by omega) (.slice A4 (lst l (64 * k + j)).length c4) (lst l (64 * k + j)).length (intV (lst l (64 * k + j))) rfl (HH.out.1.alloc _) (wr.heap.size + 1) (some ⟨wr.heap.size, 0, none⟩) 1 1 [.int .i64 (64 * (k : Int) + (t : Int))] rfl (reads_new wr _ _) (by simp [Value.oneCell']) (by simp only [maxLen]; omega) (by omega) (by have := HH.out.2.size; simp; omega) ?_; intro v1 w1 hown hg _)
          have HM := Lib.hid (got_more HH.out hown hg)
          clear hown hg
          rw [HT.out.2.2.2]
          exact ⟨⟨t + 1, _, by omega, rfl, Lib.hid ⟨Nat.lt_trans hdec HY.out.1, HT.out.2.1⟩, by rw [HT.out.2.2.1, show ((64 * k + t : Nat) : Int) = 64 * (k : Int) + (t : Int) from by omega]; exact HM⟩, by simp only [intOf]; omega⟩
    · obtain rfl : k = l.length := by omega
      go_wp2_with fail
      go_ret
      exact ⟨_, rfl, HG.out⟩
end Go.Proofs.YtfmdloomjnmpgaaDoor
