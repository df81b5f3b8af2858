/-
  slices.Clone of a set; 'Add' and 'Less': a new set with one bit set, or not; nothing that was there has turned.
-/
import Derived.Test.YtfmdloomjnmpgaaDoorCount
import Derived.Tactics
import Derived.WalkSpells
import Derived.WalkLawsBesides
import Derived.KernelRfl
namespace Go.Proofs.YtfmdloomjnmpgaaDoor
open Go.RowKit

theorem info43 : (Tryd.prog.info? 43).map (fun i => (i.zero, i.size, i.bytes)) = some (some (.int .u64 0), 1, 8) := by kernel_rfl
theorem info3 : (Tryd.prog.info? 3).map (fun i => (i.zero, i.size, i.bytes)) = some (some (.int .i64 0), 1, 8) := by kernel_rfl
theorem wordV_one (l : List UInt64) : ∀ u ∈ wordV l, u.oneCell' = true := by
  intro u hu
  obtain ⟨_, _, rfl⟩ := List.mem_map.1 hu
  rfl

set_option maxHeartbeats 400000 in
theorem clone_any (A : Option Addr) (n c : Nat) (xs : List Value) (w : World) (hr : Reads w w.heap.size 1 A n xs) (h1 : ∀ u ∈ xs, u.oneCell' = true) (hn : n ≤ 1000000) :
    Calls Tryd.prog 30 #[.slice A n c] w fun e w' => ∃ v, e = .returned v ∧ w'.ownsRow w.heap.size 43 1 v n xs ∧ Below w.heap.size w w' := by
  obtain ⟨i0, hi0, hz0, hz1, hz2⟩ := info_parts info43
  have hnil := fun w => Lib.run_eql_slice_nil (P := Tryd.prog) w 25 43 A n c 0 0 Tryd.underlying25
  rcases A with _ | ad
  · have hz : n = 0 := by
      rcases Nat.eq_zero_or_pos n with h | h
      · exact h
      · obtain ⟨_, h, _⟩ := hr.2 h
        cases h
    subst hz
    have hx : xs = [] := List.eq_nil_of_length_eq_zero (by simpa using hr.1)
    subst hx
    go_enter Tryd.func30, Tryd.ntmps30
    go_wp2
    go_ret
    exact ⟨_, rfl, World.ownsRow_nil _ _ _ _, Below.refl _ _⟩
  · go_enter Tryd.func30, Tryd.ntmps30
    go_wp2_with (at_builtin; refine wpList_append_any _ rfl (.tmp 5) (.tmp 6) _ rfl w.heap.size 43 i0 _ 1 8 Tryd.underlying25 hi0 hz0 hz1 hz2 rfl (by omega) (.slice (some ⟨w.heap.size, 0, none⟩) 0 0) 0 [] rfl (World.ownsRow_made w #[] 0 (Nat.le_refl _) (by simp [maxLen]) (by simp)) w.heap.size (some ad) n c xs rfl (hr.alloc (Nat.le_refl _) _) h1 (by simp only [maxLen]; omega) (by omega) (by simp) ?_; intro v1 w1 hown hg _)
    go_ret
    refine ⟨v1, rfl, by simpa using hown, ((Below.refl _ _).alloc (Nat.le_refl _) _).grown hg (by simp) (by simp [Value.ownBlock])⟩

theorem own_slice {w : World} {base n : Nat} {e : TypeId} {size : Nat} {v : Value} {xs : List Value} (h : w.ownsRow base e size v n xs) : ∃ A c, v = .slice A n c ∧ n ≤ c := by
  rcases h.2 with ⟨rfl, rfl⟩ | ⟨g, cap, cur, rfl, _, _, hc, _⟩
  · exact ⟨_, _, rfl, Nat.le_refl _⟩
  · exact ⟨_, _, rfl, hc⟩

def setW (x : UInt64) (j : Nat) : UInt64 := UInt64.ofNat (x.toNat ||| 2 ^ j)
def clrW (x : UInt64) (j : Nat) : UInt64 := UInt64.ofNat (x.toNat &&& (18446744073709551615 - 2 ^ j))
theorem two_lt {j : Nat} (hj : j < 64) : 2 ^ j < 18446744073709551616 := Nat.pow_lt_pow_right (by decide : 1 < 2) hj
theorem two_wrap {j : Nat} (hj : j < 64) : IntKind.u64.wrap ((2 : Int) ^ j) = ((2 ^ j : Nat) : Int) := by
  have h := two_lt hj
  have e : ((2 : Int) ^ j) = ((2 ^ j : Nat) : Int) := by simp
  rw [e]
  generalize 2 ^ j = m at *
  rw [IntKind.wrap_u64]
  omega
theorem setW_nat (x : UInt64) {j : Nat} (hj : j < 64) : (setW x j).toNat = x.toNat ||| 2 ^ j := by
  have h1 : x.toNat ||| 2 ^ j < 2 ^ 64 := Nat.or_lt_two_pow (u64_lt x) (two_lt hj)
  unfold setW
  rw [UInt64.toNat_ofNat']
  exact Nat.mod_eq_of_lt h1
theorem clrW_nat (x : UInt64) (j : Nat) : (clrW x j).toNat = x.toNat &&& (18446744073709551615 - 2 ^ j) := by
  have h1 : x.toNat &&& (18446744073709551615 - 2 ^ j) < 2 ^ 64 := Nat.lt_of_le_of_lt Nat.and_le_left (u64_lt x)
  unfold clrW
  rw [UInt64.toNat_ofNat']
  exact Nat.mod_eq_of_lt h1
theorem or_bit (x : UInt64) {j : Nat} (hj : j < 64) : bits .or .u64 (x.toNat : Int) (IntKind.u64.wrap ((2 : Int) ^ j)) = ((setW x j).toNat : Int) := by
  rw [two_wrap hj, setW_nat x hj, bits_or_u64_nat _ _ (u64_lt x) (two_lt hj)]
theorem clr_bit (x : UInt64) {j : Nat} (hj : j < 64) : bits .andNot .u64 (x.toNat : Int) (IntKind.u64.wrap ((2 : Int) ^ j)) = ((clrW x j).toNat : Int) := by
  rw [two_wrap hj, clrW_nat x j, u64_andNot_nat _ _ (u64_lt x) (two_lt hj)]
theorem setW_bit (x : UInt64) {j : Nat} (hj : j < 64) (i : Nat) : (setW x j).toNat.testBit i = (x.toNat.testBit i || decide (j = i)) := by
  rw [setW_nat x hj, Nat.testBit_or, Nat.testBit_two_pow]
theorem clrW_bit (x : UInt64) {j : Nat} (hj : j < 64) (i : Nat) (hi : i < 64) : (clrW x j).toNat.testBit i = (x.toNat.testBit i && !decide (j = i)) := by
  rw [clrW_nat x j, Nat.testBit_and, show 18446744073709551615 - 2 ^ j = 2 ^ 64 - (2 ^ j + 1) from by omega, Nat.testBit_two_pow_sub_succ (two_lt hj), Nat.testBit_two_pow]
  simp [hi]
/-- One word turned: number k's. -/
def modL (f : UInt64 → Nat → UInt64) (l : List UInt64) (k : Int) : List UInt64 :=
  if 0 ≤ k then (match l[k.toNat / 64]? with
    | some x => l.set (k.toNat / 64) (f x (k.toNat % 64))
    | none => l) else l
theorem modL_neg (f : UInt64 → Nat → UInt64) (l : List UInt64) {k : Int} (h : k < 0) : modL f l k = l := by
  unfold modL
  rw [if_neg (by omega)]
theorem modL_out (f : UInt64 → Nat → UInt64) (l : List UInt64) {k : Nat} (h : l.length ≤ k / 64) : modL f l k = l := by
  unfold modL
  rw [if_pos (by omega), Int.toNat_natCast, List.getElem?_eq_none h]
theorem modL_in (f : UInt64 → Nat → UInt64) (l : List UInt64) {k : Nat} {x : UInt64} (h : l[k / 64]? = some x) : modL f l k = l.set (k / 64) (f x (k % 64)) := by
  unfold modL
  rw [if_pos (by omega), Int.toNat_natCast, h]
theorem modL_len (f : UInt64 → Nat → UInt64) (l : List UInt64) (k : Int) : (modL f l k).length = l.length := by
  unfold modL
  split
  · split <;> simp
  · rfl

set_option maxHeartbeats 1000000 in
theorem add_neg (k : Int) (A : Option Addr) (n c : Nat) (xs : List Value) (w : World) (hk : k < 0) (hr : Reads w w.heap.size 1 A n xs) (h1 : ∀ u ∈ xs, u.oneCell' = true) (hn : n ≤ 1000000) :
    Calls Tryd.prog 21 #[.slice A n c, .int .i64 k] w fun e w' => ∃ v, e = .returned v ∧ w'.ownsRow w.heap.size 43 1 v n xs ∧ Below w.heap.size w w' := by
  have HR := Lib.hid (And.intro hr h1)
  clear hr h1
  go_enter Tryd.func21, Tryd.ntmps21
  go_wp2_with fail
  refine (clone_any A n c xs w HR.out.1 HR.out.2 hn).mono ?_
  rintro e w1 ⟨v, rfl, hown, hb⟩
  obtain ⟨A2, c2, rfl, hc2⟩ := own_slice hown
  have HO := Lib.hid (And.intro hown hb)
  clear hown hb
  go_wp2_with fail
  refine (at_neg k A n c w1 hk).mono ?_
  rintro e w2 ⟨rfl, rfl⟩
  go_wp2_with fail
  go_ret
  exact ⟨_, rfl, HO.out⟩
set_option maxHeartbeats 1000000 in
theorem add_out (k : Nat) (A : Option Addr) (n c : Nat) (xs : List Value) (w : World) (hk : n ≤ k / 64) (hk2 : (k : Int) ≤ 9223372036854775807) (hr : Reads w w.heap.size 1 A n xs) (h1 : ∀ u ∈ xs, u.oneCell' = true) (hn : n ≤ 1000000) :
    Calls Tryd.prog 21 #[.slice A n c, .int .i64 k] w fun e w' => ∃ v, e = .returned v ∧ w'.ownsRow w.heap.size 43 1 v n xs ∧ Below w.heap.size w w' := by
  have HR := Lib.hid (And.intro hr h1)
  clear hr h1
  go_enter Tryd.func21, Tryd.ntmps21
  go_wp2_with fail
  refine (clone_any A n c xs w HR.out.1 HR.out.2 hn).mono ?_
  rintro e w1 ⟨v, rfl, hown, hb⟩
  obtain ⟨A2, c2, rfl, hc2⟩ := own_slice hown
  have HO := Lib.hid (And.intro hown hb)
  clear hown hb
  go_wp2_with fail
  refine (at_out k A n c w1 hk hk2).mono ?_
  rintro e w2 ⟨rfl, rfl⟩
  go_wp2_with fail
  go_ret
  exact ⟨_, rfl, HO.out⟩
set_option maxHeartbeats 1000000 in
theorem add_in (k : Nat) (A : Option Addr) (l : List UInt64) (c : Nat) (w : World) (hk : k / 64 < l.length) (hk2 : (k : Int) ≤ 9223372036854775807) (hr : Reads w w.heap.size 1 A l.length (wordV l)) (hn : l.length ≤ 1000000) (x : UInt64) (hx : l[k / 64]? = some x) :
    Calls Tryd.prog 21 #[.slice A l.length c, .int .i64 k] w fun e w' => ∃ v, e = .returned v ∧ w'.ownsRow w.heap.size 43 1 v l.length (wordV (l.set (k / 64) (setW x (k % 64)))) ∧ Below w.heap.size w w' := by
  have HR := Lib.hid (And.intro hr hx)
  clear hr hx
  go_enter Tryd.func21, Tryd.ntmps21
  go_wp2_with fail
  refine (clone_any A l.length c _ w HR.out.1 (wordV_one l) hn).mono ?_
  rintro e w1 ⟨v, rfl, hown, hb⟩
  obtain ⟨g, cap, rfl, hg, hlt⟩ := hown.form (by omega)
  have hc : w1.cell? ⟨g, k / 64, none⟩ = some (.int .u64 x.toNat) := by
    rw [hown.cellAt _ (by omega)]
    simp [wordV, HR.out.2]
  have hf : w1.frozen? ⟨g, k / 64, none⟩ = false := hown.frozenAt _
  have HO := Lib.hid (And.intro hown hb)
  clear hown hb
  go_wp2_with fail
  refine (at_in k A l.length c w1 hk hk2).mono ?_
  rintro e w2 ⟨rfl, rfl⟩
  go_wp2_with fail
  go_ret
  have hs := HO.out.1.stored (k / 64) (.int .u64 (setW x (k % 64)).toNat)
  rw [or_bit x (Nat.mod_lt _ (by decide))]
  refine ⟨_, rfl, ?_, HO.out.2.setCell hg _⟩
  have e : wordV (l.set (k / 64) (setW x (k % 64))) = (wordV l).set (k / 64) (.int .u64 (setW x (k % 64)).toNat) := by simp [wordV, List.map_set]
  rw [e]
  exact hs.1
theorem add_any (k : Int) (A : Option Addr) (l : List UInt64) (c : Nat) (w : World) (hk2 : k ≤ 9223372036854775807) (hr : Reads w w.heap.size 1 A l.length (wordV l)) (hn : l.length ≤ 1000000) :
    Calls Tryd.prog 21 #[.slice A l.length c, .int .i64 k] w fun e w' => ∃ v, e = .returned v ∧ w'.ownsRow w.heap.size 43 1 v l.length (wordV (modL setW l k)) ∧ Below w.heap.size w w' := by
  by_cases h0 : k < 0
  · rw [modL_neg _ _ h0]
    exact add_neg k A _ c _ w h0 hr (wordV_one l) hn
  · obtain ⟨m, rfl⟩ : ∃ m : Nat, k = (m : Int) := ⟨k.toNat, by omega⟩
    by_cases h1 : l.length ≤ m / 64
    · rw [modL_out _ _ h1]
      exact add_out m A _ c _ w h1 hk2 hr (wordV_one l) hn
    · have hx : l[m / 64]? = some (l[m / 64]'(by omega)) := List.getElem?_eq_getElem (by omega)
      rw [modL_in _ _ hx]
      exact add_in m A l c w (by omega) hk2 hr hn _ hx
set_option maxHeartbeats 1000000 in
theorem less_neg (k : Int) (A : Option Addr) (n c : Nat) (xs : List Value) (w : World) (hk : k < 0) (hr : Reads w w.heap.size 1 A n xs) (h1 : ∀ u ∈ xs, u.oneCell' = true) (hn : n ≤ 1000000) :
    Calls Tryd.prog 22 #[.slice A n c, .int .i64 k] w fun e w' => ∃ v, e = .returned v ∧ w'.ownsRow w.heap.size 43 1 v n xs ∧ Below w.heap.size w w' := by
  have HR := Lib.hid (And.intro hr h1)
  clear hr h1
  go_enter Tryd.func22, Tryd.ntmps22
  go_wp2_with fail
  refine (clone_any A n c xs w HR.out.1 HR.out.2 hn).mono ?_
  rintro e w1 ⟨v, rfl, hown, hb⟩
  obtain ⟨A2, c2, rfl, hc2⟩ := own_slice hown
  have HO := Lib.hid (And.intro hown hb)
  clear hown hb
  go_wp2_with fail
  refine (at_neg k A n c w1 hk).mono ?_
  rintro e w2 ⟨rfl, rfl⟩
  go_wp2_with fail
  go_ret
  exact ⟨_, rfl, HO.out⟩
set_option maxHeartbeats 1000000 in
theorem less_out (k : Nat) (A : Option Addr) (n c : Nat) (xs : List Value) (w : World) (hk : n ≤ k / 64) (hk2 : (k : Int) ≤ 9223372036854775807) (hr : Reads w w.heap.size 1 A n xs) (h1 : ∀ u ∈ xs, u.oneCell' = true) (hn : n ≤ 1000000) :
    Calls Tryd.prog 22 #[.slice A n c, .int .i64 k] w fun e w' => ∃ v, e = .returned v ∧ w'.ownsRow w.heap.size 43 1 v n xs ∧ Below w.heap.size w w' := by
  have HR := Lib.hid (And.intro hr h1)
  clear hr h1
  go_enter Tryd.func22, Tryd.ntmps22
  go_wp2_with fail
  refine (clone_any A n c xs w HR.out.1 HR.out.2 hn).mono ?_
  rintro e w1 ⟨v, rfl, hown, hb⟩
  obtain ⟨A2, c2, rfl, hc2⟩ := own_slice hown
  have HO := Lib.hid (And.intro hown hb)
  clear hown hb
  go_wp2_with fail
  refine (at_out k A n c w1 hk hk2).mono ?_
  rintro e w2 ⟨rfl, rfl⟩
  go_wp2_with fail
  go_ret
  exact ⟨_, rfl, HO.out⟩
set_option maxHeartbeats 1000000 in
theorem less_in (k : Nat) (A : Option Addr) (l : List UInt64) (c : Nat) (w : World) (hk : k / 64 < l.length) (hk2 : (k : Int) ≤ 9223372036854775807) (hr : Reads w w.heap.size 1 A l.length (wordV l)) (hn : l.length ≤ 1000000) (x : UInt64) (hx : l[k / 64]? = some x) :
    Calls Tryd.prog 22 #[.slice A l.length c, .int .i64 k] w fun e w' => ∃ v, e = .returned v ∧ w'.ownsRow w.heap.size 43 1 v l.length (wordV (l.set (k / 64) (clrW x (k % 64)))) ∧ Below w.heap.size w w' := by
  have HR := Lib.hid (And.intro hr hx)
  clear hr hx
  go_enter Tryd.func22, Tryd.ntmps22
  go_wp2_with fail
  refine (clone_any A l.length c _ w HR.out.1 (wordV_one l) hn).mono ?_
  rintro e w1 ⟨v, rfl, hown, hb⟩
  obtain ⟨g, cap, rfl, hg, hlt⟩ := hown.form (by omega)
  have hc : w1.cell? ⟨g, k / 64, none⟩ = some (.int .u64 x.toNat) := by
    rw [hown.cellAt _ (by omega)]
    simp [wordV, HR.out.2]
  have hf : w1.frozen? ⟨g, k / 64, none⟩ = false := hown.frozenAt _
  have HO := Lib.hid (And.intro hown hb)
  clear hown hb
  go_wp2_with fail
  refine (at_in k A l.length c w1 hk hk2).mono ?_
  rintro e w2 ⟨rfl, rfl⟩
  go_wp2_with fail
  go_ret
  have hs := HO.out.1.stored (k / 64) (.int .u64 (clrW x (k % 64)).toNat)
  rw [clr_bit x (Nat.mod_lt _ (by decide))]
  refine ⟨_, rfl, ?_, HO.out.2.setCell hg _⟩
  have e : wordV (l.set (k / 64) (clrW x (k % 64))) = (wordV l).set (k / 64) (.int .u64 (clrW x (k % 64)).toNat) := by simp [wordV, List.map_set]
  rw [e]
  exact hs.1
theorem less_any (k : Int) (A : Option Addr) (l : List UInt64) (c : Nat) (w : World) (hk2 : k ≤ 9223372036854775807) (hr : Reads w w.heap.size 1 A l.length (wordV l)) (hn : l.length ≤ 1000000) :
    Calls Tryd.prog 22 #[.slice A l.length c, .int .i64 k] w fun e w' => ∃ v, e = .returned v ∧ w'.ownsRow w.heap.size 43 1 v l.length (wordV (modL clrW l k)) ∧ Below w.heap.size w w' := by
  by_cases h0 : k < 0
  · rw [modL_neg _ _ h0]
    exact less_neg k A _ c _ w h0 hr (wordV_one l) hn
  · obtain ⟨m, rfl⟩ : ∃ m : Nat, k = (m : Int) := ⟨k.toNat, by omega⟩
    by_cases h1 : l.length ≤ m / 64
    · rw [modL_out _ _ h1]
      exact less_out m A _ c _ w h1 hk2 hr (wordV_one l) hn
    · have hx : l[m / 64]? = some (l[m / 64]'(by omega)) := List.getElem?_eq_getElem (by omega)
      rw [modL_in _ _ hx]
      exact less_in m A l c w (by omega) hk2 hr hn _ hx
end Go.Proofs.YtfmdloomjnmpgaaDoor
