/-
  'told': the few sets that the document names are as it says.
-/
import Derived.Test.YtfmdloomjnmpgaaDoorJoin
import Derived.Test.YtfmdloomjnmpgaaDoorList
namespace Go.Proofs.YtfmdloomjnmpgaaDoor
open Go.RowKit

theorem reads_lit (w : World) (cs : Array Value) (t : TypeId) (n : Nat) (hn : cs.size = n) : Reads (w.alloc (.cells cs t)) (w.alloc (.cells cs t)).heap.size 1 (some ⟨w.heap.size, 0, none⟩) n cs.toList := by
  refine ⟨by simp [hn], fun _ => ⟨_, rfl, by simp, fun j u hu => ?_⟩⟩
  rw [Addr.add_lit, Nat.zero_add, (Blk.new w t cs).cell j]
  simpa using hu
theorem put1 : putAll 65 [0, 2, 64] (zeros 2) = some [5, 1] := by decide +kernel
theorem put2 : putAll 65 [65] (zeros 2) = none := by decide +kernel
theorem own_words {w : World} {base n : Nat} {v : Value} {l : List UInt64} (h : w.ownsRow base 43 1 v n (wordV l)) : ∃ A c, v = .slice A n c ∧ Reads w w.heap.size 1 A n (wordV l) := by
  obtain ⟨A, c, rfl, _⟩ := own_slice h
  exact ⟨A, c, rfl, Reads.of_own h⟩
theorem own_ints {w wr : World} {v : Value} {l : List Int} (h : Got w l v wr) : ∃ A c, v = .slice A l.length c ∧ Reads wr wr.heap.size 1 A l.length (intV l) := by
  obtain ⟨A, c, rfl, _⟩ := own_slice h.1
  exact ⟨A, c, rfl, Reads.of_own h.1⟩

/-- The first of the calls: the words 5 and 1. -/
theorem told1 (w : World) : Calls Tryd.prog 8 #[.slice (some ⟨w.heap.size, 0, none⟩) 3 3, .int .i64 65] (w.alloc (.cells #[.int .i64 0, .int .i64 2, .int .i64 64] 3)) fun e w' =>
    ∃ A c, e = .returned (.tuple #[.slice A 2 c, .int .i64 0]) ∧ Reads w' w'.heap.size 1 A 2 (wordV [5, 1]) ∧ Below w.heap.size w w' := by
  have h := of_go (some ⟨w.heap.size, 0, none⟩) [0, 2, 64] 3 65 2 (w.alloc (.cells #[.int .i64 0, .int .i64 2, .int .i64 64] 3)) (by omega) (by omega) (reads_lit w _ 3 3 rfl) (by simp)
  refine Calls.mono h ?_
  rintro e w' ⟨hp, hb⟩
  rw [show ((65 : Nat) : Int) = 65 from rfl, put1] at hp
  obtain ⟨v, rfl, ho⟩ := hp
  obtain ⟨A, c, rfl, hr⟩ := own_words ho
  exact ⟨A, c, rfl, hr, ((Below.refl _ _).alloc (Nat.le_refl _) _).trans (hb.mono (by simp))⟩
theorem told2 (w : World) : Calls Tryd.prog 8 #[.slice (some ⟨w.heap.size, 0, none⟩) 1 1, .int .i64 65] (w.alloc (.cells #[.int .i64 65] 3)) fun e w' =>
    e = .returned (.tuple #[.slice none 0 0, .int .i64 1]) ∧ Below w.heap.size w w' := by
  have h := of_go (some ⟨w.heap.size, 0, none⟩) [65] 1 65 2 (w.alloc (.cells #[.int .i64 65] 3)) (by omega) (by omega) (reads_lit w _ 3 1 rfl) (by simp)
  refine Calls.mono h ?_
  rintro e w' ⟨hp, hb⟩
  rw [show ((65 : Nat) : Int) = 65 from rfl, put2] at hp
  exact ⟨hp, ((Below.refl _ _).alloc (Nat.le_refl _) _).trans (hb.mono (by simp))⟩
theorem told3 (w : World) : Calls Tryd.prog 21 #[.slice (some ⟨w.heap.size, 0, none⟩) 1 1, .int .i64 2] (w.alloc (.cells #[.int .u64 0] 43)) fun e w' =>
    ∃ A c, e = .returned (.slice A 1 c) ∧ Reads w' w'.heap.size 1 A 1 (wordV [4]) ∧ Below w.heap.size w w' := by
  have h := add_any 2 (some ⟨w.heap.size, 0, none⟩) [0] 1 (w.alloc (.cells #[.int .u64 0] 43)) (by omega) (reads_lit w _ 43 1 rfl) (by simp)
  refine Calls.mono h ?_
  rintro e w' ⟨v, rfl, ho, hb⟩
  obtain ⟨A, c, rfl, hr⟩ := own_words ho
  exact ⟨A, c, rfl, hr, ((Below.refl _ _).alloc (Nat.le_refl _) _).trans (hb.mono (by simp))⟩
theorem told4 (w : World) : Calls Tryd.prog 22 #[.slice (some ⟨w.heap.size, 0, none⟩) 1 1, .int .i64 0] (w.alloc (.cells #[.int .u64 5] 43)) fun e w' =>
    ∃ A c, e = .returned (.slice A 1 c) ∧ Reads w' w'.heap.size 1 A 1 (wordV [4]) ∧ Below w.heap.size w w' := by
  have h := less_any 0 (some ⟨w.heap.size, 0, none⟩) [5] 1 (w.alloc (.cells #[.int .u64 5] 43)) (by omega) (reads_lit w _ 43 1 rfl) (by simp)
  refine Calls.mono h ?_
  rintro e w' ⟨v, rfl, ho, hb⟩
  obtain ⟨A, c, rfl, hr⟩ := own_words ho
  exact ⟨A, c, rfl, hr, ((Below.refl _ _).alloc (Nat.le_refl _) _).trans (hb.mono (by simp))⟩

theorem told_has (k : Int) (b : Bool) (ad : Addr) (c : Nat) (w : World) (hr : Reads w w.heap.size 1 (some ad) 2 (wordV [5, 1])) (hb : hasB [5, 1] k = b) (hk : k ≤ 9223372036854775807) :
    Calls Tryd.prog 9 #[.slice (some ad) 2 c, .int .i64 k] w fun e w' => e = .returned (.bool b) ∧ w = w' := by
  subst hb
  exact has_any k (some ad) [5, 1] c w hr hk
theorem told_count (l : List UInt64) (m : Nat) (A : Option Addr) (c : Nat) (w : World) (hr : Reads w w.heap.size 1 A 2 (wordV l)) (hl : l.length = 2) (hm : popAll l = m) :
    Calls Tryd.prog 11 #[.slice A 2 c] w fun e w' => e = .returned (.int .i64 m) ∧ w = w' := by
  subst hm
  have h := count_any A l c w (by rw [hl]; exact hr) (by omega)
  rw [hl] at h
  exact h
theorem told_list (A : Option Addr) (c : Nat) (w : World) (hr : Reads w w.heap.size 1 A 2 (wordV [5, 1])) (ht : Tab w) :
    Calls Tryd.prog 16 #[.slice A 2 c] w fun e w' => ∃ A c, e = .returned (.slice A 3 c) ∧ Reads w' w'.heap.size 1 A 3 (intV [0, 2, 64]) ∧ Below w.heap.size w w' := by
  have h := list_any A [5, 1] c w hr (by simp) ht
  refine Calls.mono h ?_
  rintro e w' ⟨v, rfl, hg⟩
  rw [show lst [5, 1] (64 * ([5, 1] : List UInt64).length) = [0, 2, 64] from by decide +kernel] at hg
  obtain ⟨A2, c2, rfl, hr2⟩ := own_ints hg
  exact ⟨A2, c2, rfl, hr2, hg.2⟩
theorem told_same (A : Option Addr) (c : Nat) (w : World) (hr : Reads w w.heap.size 1 A 3 (intV [0, 2, 64])) :
    Calls Tryd.prog 15 #[.slice A 3 c, .slice (some ⟨w.heap.size, 0, none⟩) 3 3] (w.alloc (.cells #[.int .i64 0, .int .i64 2, .int .i64 64] 3)) fun e w' => e = .returned (.bool true) ∧ Below w.heap.size w w' := by
  have h := sameints_any A (some ⟨w.heap.size, 0, none⟩) [0, 2, 64] [0, 2, 64] c 3 (w.alloc (.cells #[.int .i64 0, .int .i64 2, .int .i64 64] 3)) ((hr.alloc (Nat.le_refl _) _).more (by simp)) (reads_lit w _ 3 3 rfl) (by simp)
  refine Calls.mono h ?_
  rintro e w' ⟨rfl, n, rfl⟩
  exact ⟨rfl, ((Below.refl _ _).alloc (Nat.le_refl _) _).trans ⟨rfl, rfl, rfl, Nat.le_refl _, fun _ _ => rfl⟩⟩
theorem told_or (A B : Option Addr) (c d : Nat) (w : World) (ha : Reads w w.heap.size 1 A 2 (wordV [5, 1])) (hb : Reads w w.heap.size 1 B 1 (wordV [4])) :
    Calls Tryd.prog 18 #[.slice A 2 c, .slice B 1 d] w fun e w' => ∃ A c, e = .returned (.slice A 2 c) ∧ Below w.heap.size w w' := by
  have h := or_any A B [5, 1] [4] c d w ha hb (by simp) (by simp)
  refine Calls.mono h ?_
  rintro e w' ⟨v, rfl, ho, hb⟩
  obtain ⟨A, c, rfl, hr⟩ := own_words ho
  exact ⟨A, c, rfl, hb⟩
theorem told_and (A B : Option Addr) (c d : Nat) (w : World) (ha : Reads w w.heap.size 1 A 2 (wordV [5, 1])) (hb : Reads w w.heap.size 1 B 1 (wordV [4])) :
    Calls Tryd.prog 19 #[.slice A 2 c, .slice B 1 d] w fun e w' => ∃ A c, e = .returned (.slice A 2 c) ∧ Reads w' w'.heap.size 1 A 2 (wordV [4, 0]) ∧ Below w.heap.size w w' := by
  have h := and_any A B [5, 1] [4] c d w ha hb (by simp) (by simp)
  refine Calls.mono h ?_
  rintro e w' ⟨v, rfl, ho, hb⟩
  rw [show joinL andW [5, 1] [4] (max ([5, 1] : List UInt64).length ([4] : List UInt64).length) = [4, 0] from by decide +kernel] at ho
  obtain ⟨A, c, rfl, hr⟩ := own_words ho
  exact ⟨A, c, rfl, hr, hb⟩
theorem told_not (A B : Option Addr) (c d : Nat) (w : World) (ha : Reads w w.heap.size 1 A 2 (wordV [5, 1])) (hb : Reads w w.heap.size 1 B 1 (wordV [4])) :
    Calls Tryd.prog 20 #[.slice A 2 c, .slice B 1 d] w fun e w' => ∃ A c, e = .returned (.slice A 2 c) ∧ Reads w' w'.heap.size 1 A 2 (wordV [1, 1]) ∧ Below w.heap.size w w' := by
  have h := not_any A B [5, 1] [4] c d w ha hb (by simp)
  refine Calls.mono h ?_
  rintro e w' ⟨v, rfl, ho, hb⟩
  rw [show joinL notW [5, 1] [4] ([5, 1] : List UInt64).length = [1, 1] from by decide +kernel] at ho
  obtain ⟨A, c, rfl, hr⟩ := own_words ho
  exact ⟨A, c, rfl, hr, hb⟩

set_option maxRecDepth 100000 in
set_option maxHeartbeats 4000000 in
theorem told_any (w : World) (ht : Tab w) :
    Calls Tryd.prog 10 #[] w fun e w' => e = .returned (.bool true) ∧ Below w.heap.size w w' := by
  have HT := Lib.hid ht
  clear ht
  go_enter Tryd.func10, Tryd.ntmps10
  go_wp2_with fail
  refine (told1 w).mono ?_
  rintro e w1 ⟨A1, c1, rfl, hr1, hb1⟩
  have H1 := Lib.hid (And.intro hr1 hb1)
  clear hr1 hb1
  go_wp2_with fail
  refine (told2 w1).mono ?_
  rintro e w2 ⟨rfl, hb2⟩
  have H2 : Hid (Reads w2 w2.heap.size 1 A1 2 (wordV [5, 1]) ∧ Below w.heap.size w w2) := Lib.hid ⟨(H1.out.1.below hb2).more hb2.size, H1.out.2.trans (hb2.mono H1.out.2.size)⟩
  clear hb2
  go_wp2_with fail
  refine (of_range none 0 0 (-1) w2 (by omega)).mono ?_
  rintro e w3 ⟨rfl, rfl⟩
  go_wp2_with fail
  refine (told3 w2).mono ?_
  rintro e w3 ⟨A3, c3, rfl, hr3, hb3⟩
  have H3 : Hid (Reads w3 w3.heap.size 1 A1 2 (wordV [5, 1]) ∧ Below w.heap.size w w3 ∧ Reads w3 w3.heap.size 1 A3 1 (wordV [4])) := Lib.hid ⟨(H2.out.1.below hb3).more hb3.size, H2.out.2.trans (hb3.mono H2.out.2.size), hr3⟩
  clear hr3 hb3
  go_wp2_with fail
  refine (told4 w3).mono ?_
  rintro e w4 ⟨A4, c4, rfl, hr4, hb4⟩
  have H4 : Hid (Reads w4 w4.heap.size 1 A1 2 (wordV [5, 1]) ∧ Below w.heap.size w w4 ∧ Reads w4 w4.heap.size 1 A3 1 (wordV [4]) ∧ Reads w4 w4.heap.size 1 A4 1 (wordV [4])) := Lib.hid ⟨(H3.out.1.below hb4).more hb4.size, H3.out.2.1.trans (hb4.mono H3.out.2.1.size), (H3.out.2.2.below hb4).more hb4.size, hr4⟩
  clear hr4 hb4
  obtain ⟨ad1, rfl, hlt1, hc1⟩ := H4.out.1.2 (by omega)
  obtain ⟨ad3, rfl, hlt3, hc3⟩ := H4.out.2.2.1.2 (by omega)
  obtain ⟨ad4, rfl, hlt4, hc4⟩ := H4.out.2.2.2.2 (by omega)
  have k0 : w4.cell? ad1 = some (.int .u64 5) := hc1 0 _ rfl
  have k1 : w4.cell? ⟨ad1.block, ad1.off + 1, none⟩ = some (.int .u64 1) := hc1 1 _ rfl
  have k3 : w4.cell? ad3 = some (.int .u64 4) := hc3 0 _ rfl
  have k4 : w4.cell? ad4 = some (.int .u64 4) := hc4 0 _ rfl
  clear hc1 hc3 hc4 hlt1 hlt3 hlt4
  go_wp2_with fail
  refine (told_has 64 true ad1 c1 w4 H4.out.1 (by decide +kernel) (by omega)).mono ?_
  rintro e w5 ⟨rfl, rfl⟩
  go_wp2_with fail
  refine (told_has 1 false ad1 c1 w4 H4.out.1 (by decide +kernel) (by omega)).mono ?_
  rintro e w5 ⟨rfl, rfl⟩
  go_wp2_with fail
  refine (told_has 128 false ad1 c1 w4 H4.out.1 (by decide +kernel) (by omega)).mono ?_
  rintro e w5 ⟨rfl, rfl⟩
  go_wp2_with fail
  refine (told_count [5, 1] 3 (some ad1) c1 w4 H4.out.1 rfl (by decide +kernel)).mono ?_
  rintro e w5 ⟨rfl, rfl⟩
  clear k0 k1 k3 k4
  go_wp2_with fail
  refine (told_list (some ad1) c1 w4 H4.out.1 (HT.out.below H4.out.2.1 HT.out.1)).mono ?_
  rintro e w5 ⟨A5, c5, rfl, hr5, hb5⟩
  have H5 : Hid (Reads w5 w5.heap.size 1 (some ad1) 2 (wordV [5, 1]) ∧ Below w.heap.size w w5 ∧ Reads w5 w5.heap.size 1 (some ad3) 1 (wordV [4]) ∧ Reads w5 w5.heap.size 1 A5 3 (intV [0, 2, 64])) := Lib.hid ⟨(H4.out.1.below hb5).more hb5.size, H4.out.2.1.trans (hb5.mono H4.out.2.1.size), (H4.out.2.2.1.below hb5).more hb5.size, hr5⟩
  clear hr5 hb5
  go_wp2_with fail
  refine (told_same A5 c5 w5 H5.out.2.2.2).mono ?_
  rintro e w6 ⟨rfl, hb6⟩
  have H6 : Hid (Reads w6 w6.heap.size 1 (some ad1) 2 (wordV [5, 1]) ∧ Below w.heap.size w w6 ∧ Reads w6 w6.heap.size 1 (some ad3) 1 (wordV [4])) := Lib.hid ⟨(H5.out.1.below hb6).more hb6.size, H5.out.2.1.trans (hb6.mono H5.out.2.1.size), (H5.out.2.2.1.below hb6).more hb6.size⟩
  clear hb6
  go_wp2_with fail
  refine (told_or (some ad1) (some ad3) c1 c3 w6 H6.out.1 H6.out.2.2).mono ?_
  rintro e w7 ⟨A7, c7, rfl, hb7⟩
  have H7 : Hid (Reads w7 w7.heap.size 1 (some ad1) 2 (wordV [5, 1]) ∧ Below w.heap.size w w7 ∧ Reads w7 w7.heap.size 1 (some ad3) 1 (wordV [4])) := Lib.hid ⟨(H6.out.1.below hb7).more hb7.size, H6.out.2.1.trans (hb7.mono H6.out.2.1.size), (H6.out.2.2.below hb7).more hb7.size⟩
  clear hb7
  go_wp2_with fail
  refine (told_and (some ad1) (some ad3) c1 c3 w7 H7.out.1 H7.out.2.2).mono ?_
  rintro e w8 ⟨A8, c8, rfl, hr8, hb8⟩
  have H8 : Hid (Reads w8 w8.heap.size 1 (some ad1) 2 (wordV [5, 1]) ∧ Below w.heap.size w w8 ∧ Reads w8 w8.heap.size 1 (some ad3) 1 (wordV [4]) ∧ Reads w8 w8.heap.size 1 A8 2 (wordV [4, 0])) := Lib.hid ⟨(H7.out.1.below hb8).more hb8.size, H7.out.2.1.trans (hb8.mono H7.out.2.1.size), (H7.out.2.2.below hb8).more hb8.size, hr8⟩
  clear hr8 hb8
  go_wp2_with fail
  refine (told_count [4, 0] 1 A8 c8 w8 H8.out.2.2.2 rfl (by decide +kernel)).mono ?_
  rintro e w9 ⟨rfl, rfl⟩
  go_wp2_with fail
  refine (told_not (some ad1) (some ad3) c1 c3 w8 H8.out.1 H8.out.2.2.1).mono ?_
  rintro e w9 ⟨A9, c9, rfl, hr9, hb9⟩
  have H9 : Hid (Reads w9 w9.heap.size 1 A9 2 (wordV [1, 1]) ∧ Below w.heap.size w w9) := Lib.hid ⟨hr9, H8.out.2.1.trans (hb9.mono H8.out.2.1.size)⟩
  clear hr9 hb9
  go_wp2_with fail
  refine (told_count [1, 1] 2 A9 c9 w9 H9.out.1 rfl (by decide +kernel)).mono ?_
  rintro e w10 ⟨rfl, rfl⟩
  go_wp2_with fail
  go_ret
  exact ⟨rfl, H9.out.2⟩
end Go.Proofs.YtfmdloomjnmpgaaDoor
