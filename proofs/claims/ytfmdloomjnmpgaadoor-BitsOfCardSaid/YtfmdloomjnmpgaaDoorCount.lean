/-
  math/bits.OnesCount64, TrailingZeros64 and the count of a set: how many bits are set, which is the lowest.
-/
import Derived.Test.YtfmdloomjnmpgaaDoorWord
import Derived.Test.YtfmdloomjnmpgaaDoorOnes
import Derived.Lib.TrailingZeros
namespace Go.Proofs.YtfmdloomjnmpgaaDoor
open Go.RowKit

theorem and_lit (a m : Nat) (ha : a < 18446744073709551616) (hm : m < 18446744073709551616) : bits .and .u64 (a : Int) (m : Int) = ((a &&& m : Nat) : Int) := bits_and_u64_nat a m ha hm
theorem wrap_nat (a : Nat) (ha : a < 18446744073709551616) : IntKind.u64.wrap (a : Int) = (a : Int) := by rw [IntKind.wrap_u64]; omega
theorem stage2 (x m : Nat) (d : Nat) (hm : m < 9223372036854775808) (hx : x < 18446744073709551616) : IntKind.u64.wrap (bits .and .u64 ((x / d : Nat) : Int) (m : Int) + bits .and .u64 (x : Int) (m : Int)) = (((x / d &&& m) + (x &&& m) : Nat) : Int) := by
  have h1 : x / d < 18446744073709551616 := Nat.lt_of_le_of_lt (Nat.div_le_self _ _) hx
  have h2 : x / d &&& m ≤ m := Nat.and_le_right
  have h3 : x &&& m ≤ m := Nat.and_le_right
  rw [and_lit _ _ h1 (by omega), and_lit _ _ hx (by omega), IntKind.wrap_u64]
  omega

theorem last7 (f p : Nat) (h : f % 128 = p) : wrap64 (f : Int) % 128 = (p : Int) := by
  unfold wrap64
  omega

set_option maxHeartbeats 1000000 in
theorem ones_any (x : UInt64) (w : World) :
    Calls Tryd.prog 24 #[.int .u64 x.toNat] w fun e w' => e = .returned (.int .i64 (popN 64 x.toNat)) ∧ w = w' := by
  go_enter Tryd.func24, Tryd.ntmps24
  go_wp2
  go_ret
  refine ⟨ret_int ?_, rfl⟩
  have hx := u64_lt x
  generalize x.toNat = n at *
  obtain ⟨a, ha⟩ : ∃ a, a = (n / 2 &&& 6148914691236517205) + (n &&& 6148914691236517205) := ⟨_, rfl⟩
  obtain ⟨b, hb⟩ : ∃ b, b = (a / 4 &&& 3689348814741910323) + (a &&& 3689348814741910323) := ⟨_, rfl⟩
  obtain ⟨c, hc⟩ : ∃ c, c = (b / 16 + b) &&& 1085102592571150095 := ⟨_, rfl⟩
  obtain ⟨d, hd⟩ : ∃ d, d = c + c / 256 := ⟨_, rfl⟩
  obtain ⟨e, he⟩ : ∃ e, e = d + d / 65536 := ⟨_, rfl⟩
  obtain ⟨f, hf⟩ : ∃ f, f = e + e / 4294967296 := ⟨_, rfl⟩
  obtain ⟨la, lb, lc1, lc, lf, hpop⟩ := swar n hx a b c d e f ha hb hc hd he hf
  have ld : d < 18446744073709551616 := by omega
  have le : e < 18446744073709551616 := by omega
  have sA : IntKind.u64.wrap (bits .and .u64 ((n : Int) / 2) 6148914691236517205 + bits .and .u64 (n : Int) 6148914691236517205) = (a : Int) := by
    rw [ha]; exact stage2 n 6148914691236517205 2 (by omega) hx
  have sB : IntKind.u64.wrap (bits .and .u64 ((a : Int) / 4) 3689348814741910323 + bits .and .u64 (a : Int) 3689348814741910323) = (b : Int) := by
    rw [hb]; exact stage2 a 3689348814741910323 4 (by omega) la
  have sC1 : IntKind.u64.wrap ((b : Int) / 16 + (b : Int)) = ((b / 16 + b : Nat) : Int) := by rw [IntKind.wrap_u64]; omega
  have sC : bits .and .u64 ((b / 16 + b : Nat) : Int) 1085102592571150095 = (c : Int) := by
    rw [hc]; exact and_lit _ 1085102592571150095 lc1 (by omega)
  have sD : IntKind.u64.wrap ((c : Int) + (c : Int) / 256) = (d : Int) := by rw [IntKind.wrap_u64]; omega
  have sE : IntKind.u64.wrap ((d : Int) + (d : Int) / 65536) = (e : Int) := by rw [IntKind.wrap_u64]; omega
  have sF : IntKind.u64.wrap ((e : Int) + (e : Int) / 4294967296) = (f : Int) := by rw [IntKind.wrap_u64]; omega
  clear ha hb hc hd he hf
  rw [sA, sB, sC1, sC, sD, sE, sF, i64_and127]
  exact last7 f _ hpop

set_option maxHeartbeats 1000000 in
theorem tz_core (x k idx : Nat) (w : World) (hx0 : ((x : Int) == 0) = false)
    (key : IntKind.u64.wrap (bits BinOp.and IntKind.u64 (x : Int) (IntKind.u64.wrap (-(x : Int))) * 285870213051353865) / 288230376151711744 = (idx : Int))
    (hi : idx < 64) (hk : k < 64) (hcell : w.cell? ⟨0, idx, none⟩ = some (.int .u8 k)) :
    Calls Tryd.prog 25 #[.int .u64 x] w fun e w' => e = .returned (.int .i64 k) ∧ w = w' := by
  go_enter Tryd.func25, Tryd.ntmps25
  go_wp2_with (simp only [key])
  go_ret
  exact ⟨rfl, rfl⟩
theorem tz_key (x a : Nat) (hx : x < 18446744073709551616) (hx0 : x ≠ 0) (hlow : x &&& (18446744073709551616 - x) = a) :
    IntKind.u64.wrap (bits BinOp.and IntKind.u64 (x : Int) (IntKind.u64.wrap (-(x : Int))) * 285870213051353865) / 288230376151711744 = ((a * 285870213051353865 % 18446744073709551616 / 288230376151711744 : Nat) : Int) := by
  have e1 : IntKind.u64.wrap (-(x : Int)) = ((18446744073709551616 - x : Nat) : Int) := by rw [IntKind.wrap_u64]; omega
  rw [e1, bits_and_u64_nat x _ hx (by omega), hlow, IntKind.wrap_u64]
  omega
/-- The library's table, in its variable. -/
def Tab (w : World) : Prop := 0 < w.heap.size ∧ ∀ j, j < 64 → w.cell? ⟨0, j, none⟩ = some (.int .u8 (Lib.deBruijn64tab.getD j 0))
theorem Tab.below {w w' : World} {B : Nat} (h : Tab w) (hb : Below B w w') (hB : 0 < B) : Tab w' :=
  ⟨Nat.lt_of_lt_of_le h.1 hb.size, fun j hj => (hb.cell (p := ⟨0, j, none⟩) hB).trans (h.2 j hj)⟩
theorem tz_any (x : UInt64) (w : World) (hx0 : x.toNat ≠ 0) (ht : Tab w) :
    Calls Tryd.prog 25 #[.int .u64 x.toNat] w fun e w' => e = .returned (.int .i64 (Lib.ctz 64 x.toNat)) ∧ w = w' := by
  have hx := u64_lt x
  obtain ⟨hlow, hk⟩ := Lib.lowest_bit 64 x.toNat hx0 hx
  obtain ⟨hi, htab⟩ := Lib.deBruijn64_at _ hk
  have hcell := ht.2 _ hi
  rw [htab] at hcell
  exact tz_core x.toNat _ _ w (by simp; omega) (tz_key x.toNat _ hx hx0 hlow) hi hk hcell

def popAll (l : List UInt64) : Nat := (l.map fun x => popN 64 x.toNat).sum
theorem popAll_le (l : List UInt64) : popAll l ≤ 64 * l.length := by
  induction l with
  | nil => simp [popAll]
  | cons x l ih =>
    have := popN_le 64 x.toNat
    simp only [popAll, List.map_cons, List.sum_cons, List.length_cons] at ih ⊢
    omega
theorem popAll_take (l : List UInt64) (k : Nat) {x : UInt64} (h : l[k]? = some x) : popAll (l.take (k + 1)) = popAll (l.take k) + popN 64 x.toNat := by
  rw [List.take_add_one, h]
  simp [popAll]
theorem take_le (l : List UInt64) (k : Nat) : popAll (l.take k) ≤ 64 * k := by
  have := popAll_le (l.take k)
  have : (l.take k).length ≤ k := List.length_take_le _ _
  omega

set_option maxHeartbeats 400000 in
theorem count_any (A : Option Addr) (l : List UInt64) (c : Nat) (w : World) (hr : Reads w w.heap.size 1 A l.length (wordV l)) (hl : l.length ≤ 1000000) :
    Calls Tryd.prog 11 #[.slice A l.length c] w fun e w' => e = .returned (.int .i64 (popAll l)) ∧ w = w' := by
  go_enter Tryd.func11, Tryd.ntmps11
  go_wp2_with fail
  go_loop [3, 8] (fun n i => ∃ k : Nat, k ≤ l.length ∧ i = .int .i64 k ∧ n = .int .i64 (popAll (l.take k))) (fun _ i => l.length - (intOf i).toNat)
  case atStart => exact ⟨0, Nat.zero_le _, rfl, rfl⟩
  case round =>
    obtain ⟨k, hk, rfl, rfl⟩ := hrel
    by_cases hlt : k < l.length
    · obtain ⟨ad, x, rfl, _, hx, hc⟩ := words_at hr hlt
      have hp := take_le l k
      have hq := popN_le 64 x.toNat
      have HT := Lib.hid (popAll_take l k hx)
      clear hx
      generalize popAll (l.take k) = p at *
      generalize hP : popN 64 x.toNat = q at *
      have HP := Lib.hid hP
      clear hP
      go_wp2_with (go_at_call 24; refine (ones_any _ _).mono ?_; rintro e w' ⟨rfl, rfl⟩; rw [HP.out])
      go_round
      case rel => exact ⟨k + 1, by omega, by go_num, by rw [HT.out]; go_num⟩
      case measure => simp [intOf]; omega
    · obtain rfl : k = l.length := by omega
      go_wp2_with fail
      go_ret
      exact ⟨rfl, rfl⟩
end Go.Proofs.YtfmdloomjnmpgaaDoor
