/-
  Sets as lists of words: what is in one; the calls 'at', 'Has', 'get'.
-/
import Derived.Test.YtfmdloomjnmpgaaDoorMem
import Derived.WalkKit
import Derived.IntWalk
import Derived.Lib.Hide
import Derived.Outline
namespace Go.Proofs.YtfmdloomjnmpgaaDoor
open Go.RowKit

theorem ret_bool {a b : Bool} (h : a = b) : Ending.returned (.bool a) = .returned (.bool b) := by rw [h]
theorem ret_int {k : IntKind} {a b : Int} (h : a = b) : Ending.returned (.int k a) = .returned (.int k b) := by rw [h]

def wordV (l : List UInt64) : List Value := l.map fun x => .int .u64 x.toNat
theorem wordV_len (l : List UInt64) : (wordV l).length = l.length := by simp [wordV]
/-- Number k's bit. -/
def bitAt (l : List UInt64) (k : Nat) : Bool := (l.getD (k / 64) 0).toNat.testBit (k % 64)
def hasB (l : List UInt64) (k : Int) : Bool := decide (0 ≤ k) && bitAt l k.toNat
theorem bitAt_out {l : List UInt64} {k : Nat} (h : l.length ≤ k / 64) : bitAt l k = false := by
  simp [bitAt, List.getD, List.getElem?_eq_none h]
theorem bitAt_in {l : List UInt64} {k : Nat} {x : UInt64} (h : l[k / 64]? = some x) : bitAt l k = x.toNat.testBit (k % 64) := by
  simp [bitAt, List.getD, h]
theorem u64_lt (x : UInt64) : x.toNat < 18446744073709551616 := x.toNat_lt

theorem words_at {w : World} {B n : Nat} {A : Option Addr} {l : List UInt64} (h : Reads w B 1 A n (wordV l)) {k : Nat} (hk : k < n) :
    ∃ ad x, A = some ad ∧ ad.block < B ∧ l[k]? = some x ∧ w.cell? (ad.add k) = some (.int .u64 x.toNat) := by
  obtain ⟨ad, u, hA, hb, hx, hc⟩ := h.at_ hk
  simp only [wordV, List.getElem?_map] at hx
  cases hl : l[k]? with
  | none => rw [hl] at hx; cases hx
  | some x =>
    rw [hl] at hx
    cases hx
    exact ⟨ad, x, hA, hb, rfl, hc⟩

set_option maxHeartbeats 400000 in
theorem at_neg (k : Int) (A : Option Addr) (n c : Nat) (w : World) (hk : k < 0) :
    Calls Tryd.prog 23 #[.slice A n c, .int .i64 k] w fun e w' => e = .returned (.tuple #[.int .i64 0, .bool false]) ∧ w = w' := by
  go_enter Tryd.func23, Tryd.ntmps23
  go_wp2
  go_ret2
  exact ⟨rfl, rfl⟩
set_option maxHeartbeats 400000 in
theorem at_out (k : Nat) (A : Option Addr) (n c : Nat) (w : World) (hk : n ≤ k / 64) (hk2 : (k : Int) ≤ 9223372036854775807) :
    Calls Tryd.prog 23 #[.slice A n c, .int .i64 k] w fun e w' => e = .returned (.tuple #[.int .i64 0, .bool false]) ∧ w = w' := by
  have h : (n : Int) ≤ (k : Int) / 64 := by omega
  clear hk
  go_enter Tryd.func23, Tryd.ntmps23
  go_wp2
  go_ret2
  exact ⟨rfl, rfl⟩
set_option maxHeartbeats 400000 in
theorem at_in (k : Nat) (A : Option Addr) (n c : Nat) (w : World) (hk : k / 64 < n) (hk2 : (k : Int) ≤ 9223372036854775807) :
    Calls Tryd.prog 23 #[.slice A n c, .int .i64 k] w fun e w' => e = .returned (.tuple #[.int .i64 ((k / 64 : Nat) : Int), .bool true]) ∧ w = w' := by
  have h : (k : Int) / 64 < (n : Int) := by omega
  clear hk
  go_enter Tryd.func23, Tryd.ntmps23
  go_wp2
  go_ret2
  exact ⟨rfl, rfl⟩

set_option maxHeartbeats 400000 in
theorem has_neg (k : Int) (A : Option Addr) (n c : Nat) (w : World) (hk : k < 0) :
    Calls Tryd.prog 9 #[.slice A n c, .int .i64 k] w fun e w' => e = .returned (.bool false) ∧ w = w' := by
  go_enter Tryd.func9, Tryd.ntmps9
  go_wp2_with (go_at_call 23; refine (at_neg _ _ _ _ _ hk).mono ?_; rintro e w' ⟨rfl, rfl⟩)
  go_ret
  exact ⟨rfl, rfl⟩
set_option maxHeartbeats 400000 in
theorem has_out (k : Nat) (A : Option Addr) (n c : Nat) (w : World) (hk : n ≤ k / 64) (hk2 : (k : Int) ≤ 9223372036854775807) :
    Calls Tryd.prog 9 #[.slice A n c, .int .i64 k] w fun e w' => e = .returned (.bool false) ∧ w = w' := by
  go_enter Tryd.func9, Tryd.ntmps9
  go_wp2_with (go_at_call 23; refine (at_out _ _ _ _ _ hk hk2).mono ?_; rintro e w' ⟨rfl, rfl⟩)
  go_ret
  exact ⟨rfl, rfl⟩
theorem tbit (x : UInt64) (j : Nat) : (bits .and .u64 ((x.toNat : Int) / 2 ^ j) 1 == 1) = x.toNat.testBit j := by
  have h := u64_lt x
  have e : (x.toNat : Int) / 2 ^ j = ((x.toNat / 2 ^ j : Nat) : Int) := by simp
  have h2 : x.toNat / 2 ^ j < 18446744073709551616 := Nat.lt_of_le_of_lt (Nat.div_le_self _ _) h
  rw [e, show (1 : Int) = ((1 : Nat) : Int) from rfl, bits_and_u64_nat _ _ h2 (by omega), Nat.and_one_is_mod, Nat.testBit_eq_decide_div_mod_eq, Bool.eq_iff_iff]
  simp
  omega
set_option maxHeartbeats 400000 in
theorem has_in (k : Nat) (ad : Addr) (n c : Nat) (x : UInt64) (w : World) (hk : k / 64 < n) (hk2 : (k : Int) ≤ 9223372036854775807) (hc : w.cell? (ad.add (k / 64)) = some (.int .u64 x.toNat)) :
    Calls Tryd.prog 9 #[.slice (some ad) n c, .int .i64 k] w fun e w' => e = .returned (.bool (x.toNat.testBit (k % 64))) ∧ w = w' := by
  go_enter Tryd.func9, Tryd.ntmps9
  go_wp2_with (go_at_call 23; refine (at_in _ _ _ _ _ hk hk2).mono ?_; rintro e w' ⟨rfl, rfl⟩)
  go_ret
  exact ⟨ret_bool (tbit _ _), rfl⟩
theorem has_any (k : Int) (A : Option Addr) (l : List UInt64) (c : Nat) (w : World) (hr : Reads w w.heap.size 1 A l.length (wordV l)) (hk2 : k ≤ 9223372036854775807) :
    Calls Tryd.prog 9 #[.slice A l.length c, .int .i64 k] w fun e w' => e = .returned (.bool (hasB l k)) ∧ w = w' := by
  by_cases h0 : k < 0
  · have e : hasB l k = false := by simp [hasB]; omega
    rw [e]
    exact has_neg k A _ c w h0
  · obtain ⟨m, rfl⟩ : ∃ m : Nat, k = (m : Int) := ⟨k.toNat, by omega⟩
    by_cases h1 : l.length ≤ m / 64
    · have e : hasB l m = false := by simp [hasB, bitAt_out h1]
      rw [e]
      exact has_out m A _ c w h1 hk2
    · obtain ⟨ad, x, rfl, _, hx, hc⟩ := words_at hr (by omega : m / 64 < l.length)
      have e : hasB l m = x.toNat.testBit (m % 64) := by simp [hasB, bitAt_in hx]
      rw [e]
      exact has_in m ad _ c x w (by omega) hk2 hc

set_option maxHeartbeats 400000 in
theorem get_out (k : Nat) (A : Option Addr) (n c : Nat) (w : World) (hk : n ≤ k) :
    Calls Tryd.prog 31 #[.slice A n c, .int .i64 k] w fun e w' => e = .returned (.int .u64 0) ∧ w = w' := by
  go_enter Tryd.func31, Tryd.ntmps31
  go_wp2
  go_ret
  exact ⟨rfl, rfl⟩
set_option maxHeartbeats 400000 in
theorem get_in (k : Nat) (ad : Addr) (n c : Nat) (x : UInt64) (w : World) (hk : k < n) (hc : w.cell? (ad.add k) = some (.int .u64 x.toNat)) :
    Calls Tryd.prog 31 #[.slice (some ad) n c, .int .i64 k] w fun e w' => e = .returned (.int .u64 x.toNat) ∧ w = w' := by
  go_enter Tryd.func31, Tryd.ntmps31
  go_wp2
  go_ret
  exact ⟨rfl, rfl⟩
theorem get_any (k : Nat) (A : Option Addr) (l : List UInt64) (c : Nat) (w : World) (hr : Reads w w.heap.size 1 A l.length (wordV l)) :
    Calls Tryd.prog 31 #[.slice A l.length c, .int .i64 k] w fun e w' => e = .returned (.int .u64 (l.getD k 0).toNat) ∧ w = w' := by
  by_cases h1 : l.length ≤ k
  · have e : l.getD k 0 = 0 := by simp [List.getD, List.getElem?_eq_none h1]
    rw [e]
    exact get_out k A _ c w h1
  · obtain ⟨ad, x, rfl, _, hx, hc⟩ := words_at hr (by omega : k < l.length)
    have e : l.getD k 0 = x := by simp [List.getD, hx]
    rw [e]
    exact get_in k ad _ c x w (by omega) hc
set_option maxHeartbeats 400000 in
theorem hasbit_neg (k : Int) (A : Option Addr) (n c : Nat) (w : World) (hk : k < 0) :
    Calls Tryd.prog 14 #[.slice A n c, .int .i64 k] w fun e w' => e = .returned (.bool false) ∧ w = w' := by
  go_enter Tryd.func14, Tryd.ntmps14
  go_wp2
  go_ret
  exact ⟨rfl, rfl⟩
set_option maxHeartbeats 400000 in
theorem hasbit_out (k : Nat) (A : Option Addr) (n c : Nat) (w : World) (hk : n ≤ k / 64) (hk2 : (k : Int) ≤ 9223372036854775807) :
    Calls Tryd.prog 14 #[.slice A n c, .int .i64 k] w fun e w' => e = .returned (.bool false) ∧ w = w' := by
  have h : (n : Int) ≤ (k : Int) / 64 := by omega
  have h3 : decide ((k : Int) / 64 < (n : Int)) = false := decide_eq_false (by omega)
  clear hk
  go_enter Tryd.func14, Tryd.ntmps14
  go_wp2
  go_ret
  exact ⟨rfl, rfl⟩
set_option maxHeartbeats 400000 in
theorem hasbit_in (k : Nat) (ad : Addr) (n c : Nat) (x : UInt64) (w : World) (hk : k / 64 < n) (hk2 : (k : Int) ≤ 9223372036854775807) (hc : w.cell? (ad.add (k / 64)) = some (.int .u64 x.toNat)) :
    Calls Tryd.prog 14 #[.slice (some ad) n c, .int .i64 k] w fun e w' => e = .returned (.bool (x.toNat.testBit (k % 64))) ∧ w = w' := by
  have h : (k : Int) / 64 < (n : Int) := by omega
  have h3 : decide ((k : Int) / 64 < (n : Int)) = true := decide_eq_true (by omega)
  clear hk
  go_enter Tryd.func14, Tryd.ntmps14
  go_wp2
  go_ret
  exact ⟨ret_bool (tbit _ _), rfl⟩
theorem hasbit_any (k : Int) (A : Option Addr) (l : List UInt64) (c : Nat) (w : World) (hr : Reads w w.heap.size 1 A l.length (wordV l)) (hk2 : k ≤ 9223372036854775807) :
    Calls Tryd.prog 14 #[.slice A l.length c, .int .i64 k] w fun e w' => e = .returned (.bool (hasB l k)) ∧ w = w' := by
  by_cases h0 : k < 0
  · have e : hasB l k = false := by simp [hasB]; omega
    rw [e]
    exact hasbit_neg k A _ c w h0
  · obtain ⟨m, rfl⟩ : ∃ m : Nat, k = (m : Int) := ⟨k.toNat, by omega⟩
    by_cases h1 : l.length ≤ m / 64
    · have e : hasB l m = false := by simp [hasB, bitAt_out h1]
      rw [e]
      exact hasbit_out m A _ c w h1 hk2
    · obtain ⟨ad, x, rfl, _, hx, hc⟩ := words_at hr (by omega : m / 64 < l.length)
      have e : hasB l m = x.toNat.testBit (m % 64) := by simp [hasB, bitAt_in hx]
      rw [e]
      exact hasbit_in m ad _ c x w (by omega) hk2 hc
end Go.Proofs.YtfmdloomjnmpgaaDoor
