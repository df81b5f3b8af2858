/-
  BitsAsks: the sets are what the document says: true at every input.
-/
import Derived.Test.YtfmdloomjnmpgaaDoorTold
import Derived.Test.YtfmdloomjnmpgaaDoorRef
namespace Go.Proofs.YtfmdloomjnmpgaaDoor
open Go.RowKit

theorem popN_mod (n x : Nat) : popN n (x % 2 ^ n) = popN n x := by
  have h := popN_add n 0 x
  simp only [popN.eq_1, Nat.add_zero] at h
  exact h.symm
theorem popN_succ (n x : Nat) : popN (n + 1) x = popN n x + x / 2 ^ n % 2 := by
  rw [popN_add n 1 x, popN_mod]
  simp [popN]
theorem bit_01 (x n : Nat) : x / 2 ^ n % 2 = if x.testBit n = true then 1 else 0 := by
  rw [Nat.testBit_eq_decide_div_mod_eq]
  have : x / 2 ^ n % 2 < 2 := Nat.mod_lt _ (by decide)
  split
  · rename_i h; simpa using h
  · rename_i h; simp at h; omega
theorem lst_word {l : List UInt64} {k : Nat} {x : UInt64} (h : l[k]? = some x) : ∀ j, j ≤ 64 → (lst l (64 * k + j)).length = (lst l (64 * k)).length + popN j x.toNat := by
  intro j
  induction j with
  | zero => intro _; simp [popN]
  | succ j ih =>
    intro hj
    have hi := ih (by omega)
    have hb := bitAt_word h (show j < 64 by omega)
    rw [popN_succ, bit_01, ← Nat.add_assoc]
    cases ht : x.toNat.testBit j with
    | true =>
      rw [ht] at hb
      rw [lst_yes hb, List.length_append, hi]
      simp
      omega
    | false =>
      rw [ht] at hb
      rw [lst_no hb, hi]
      simp
theorem pop_take (l : List UInt64) : ∀ k, k ≤ l.length → popAll (l.take k) = (lst l (64 * k)).length := by
  intro k
  induction k with
  | zero => intro _; simp [popAll, lst]
  | succ k ih =>
    intro hk
    have hx : l[k]? = some (l[k]'(by omega)) := List.getElem?_eq_getElem (by omega)
    rw [popAll_take l k hx, ih (by omega), show 64 * (k + 1) = 64 * k + 64 from by omega, lst_word hx 64 (Nat.le_refl _)]
theorem pop_lst (l : List UInt64) : popAll l = (lst l (64 * l.length)).length := by
  have := pop_take l l.length (Nat.le_refl _)
  rwa [List.take_length] at this

theorem Reads.go {w w' : World} {size n : Nat} {A : Option Addr} {xs : List Value} (h : Reads w w.heap.size size A n xs) (hb : Below w.heap.size w w') : Reads w' w'.heap.size size A n xs := (h.below hb).more hb.size
theorem bel_step {w w1 w2 : World} (h : Below w.heap.size w w1) (hb : Below w1.heap.size w1 w2) : Below w.heap.size w w2 := h.trans (hb.mono h.size)
theorem bel_drewN (w : World) (n : Nat) : Below w.heap.size w (w.drewN n) := ⟨rfl, rfl, rfl, Nat.le_refl _, fun _ _ => rfl⟩
theorem words_same (A B : Option Addr) (a : List UInt64) (c d : Nat) (w : World) (ha : Reads w w.heap.size 1 A a.length (wordV a)) (hb : Reads w w.heap.size 1 B a.length (wordV a)) (hl : a.length ≤ 1000000) :
    Calls Tryd.prog 13 #[.slice A a.length c, .slice B a.length d] w fun e w' => e = .returned (.bool true) ∧ Below w.heap.size w w' := by
  refine (words_any A B a a c d w ha hb hl).mono ?_
  rintro e w' ⟨rfl, n, rfl⟩
  exact ⟨by simp, bel_drewN w n⟩
theorem ints_same (A B : Option Addr) (a : List Int) (c d : Nat) (w : World) (ha : Reads w w.heap.size 1 A a.length (intV a)) (hb : Reads w w.heap.size 1 B a.length (intV a)) (hl : a.length ≤ 1000000) :
    Calls Tryd.prog 15 #[.slice A a.length c, .slice B a.length d] w fun e w' => e = .returned (.bool true) ∧ Below w.heap.size w w' := by
  refine (sameints_any A B a a c d w ha hb hl).mono ?_
  rintro e w' ⟨rfl, n, rfl⟩
  exact ⟨by simp, bel_drewN w n⟩

/-- The answer of 'Of', as a list and a code. -/
def ofAns (l : List Int) (n : Int) : List UInt64 × Int := match ofR l n with
  | none => ([], 1)
  | some ws => (ws, 0)
def OfIs (w : World) (p : List UInt64 × Int) (e : Ending) (w' : World) : Prop :=
  ∃ A c, e = .returned (.tuple #[.slice A p.1.length c, .int .i64 p.2]) ∧ Reads w' w'.heap.size 1 A p.1.length (wordV p.1) ∧ Below w.heap.size w w'
theorem ofIs_none {w w' : World} {l : List Int} {n : Int} (h : ofR l n = none) (hb : Below w.heap.size w w') : OfIs w (ofAns l n) (.returned (.tuple #[.slice none 0 0, .int .i64 1])) w' := by
  simp only [ofAns, h]
  exact ⟨none, 0, rfl, Reads.none_, hb⟩
theorem ofIs_post {w w' : World} {l : List Int} {n : Int} {e : Ending} (hp : OfPost w.heap.size (ofR l n) e w') (hb : Below w.heap.size w w') : OfIs w (ofAns l n) e w' := by
  cases h : ofR l n with
  | none =>
    rw [h] at hp
    obtain rfl := hp
    exact ofIs_none h hb
  | some ws =>
    rw [h] at hp
    obtain ⟨v, rfl, ho⟩ := hp
    simp only [ofAns, h]
    obtain ⟨A, c, rfl, hr⟩ := own_words ho
    exact ⟨A, c, rfl, hr, hb⟩
theorem ofR_in (l : List Int) {n : Nat} (h : n ≤ 4096) : ofR l n = putAll n l (zeros ((n + 63) / 64)) := by
  unfold ofR
  rw [if_neg (by omega), Int.toNat_natCast]
theorem ofR_out (l : List Int) {n : Int} (h : n < 0 ∨ 4096 < n) : ofR l n = none := by
  unfold ofR
  rw [if_pos h]
theorem of_any (A : Option Addr) (l : List Int) (c : Nat) (n : Int) (w : World) (hr : Reads w w.heap.size 1 A l.length (intV l)) (hl : l.length ≤ 1000000) :
    Calls Tryd.prog 8 #[.slice A l.length c, .int .i64 n] w fun e w' => OfIs w (ofAns l n) e w' := by
  by_cases h : n < 0 ∨ 4096 < n
  · refine (of_range A l.length c n w h).mono ?_
    rintro e w' ⟨rfl, rfl⟩
    exact ofIs_none (ofR_out l h) (Below.refl _ _)
  · obtain ⟨m, rfl⟩ : ∃ m : Nat, n = (m : Int) := ⟨n.toNat, by omega⟩
    refine (of_go A l c m _ w (by omega) rfl hr hl).mono ?_
    rintro e w' ⟨hp, hb⟩
    rw [← ofR_in l (by omega)] at hp
    exact ofIs_post hp hb
theorem refof_any (A : Option Addr) (l : List Int) (c : Nat) (n : Int) (w : World) (hr : Reads w w.heap.size 1 A l.length (intV l)) (hl : l.length ≤ 1000000) :
    Calls Tryd.prog 12 #[.slice A l.length c, .int .i64 n] w fun e w' => OfIs w (ofAns l n) e w' := by
  by_cases h : n < 0 ∨ 4096 < n
  · refine (refof_range A l.length c n w h).mono ?_
    rintro e w' ⟨rfl, rfl⟩
    exact ofIs_none (ofR_out l h) (Below.refl _ _)
  · obtain ⟨m, rfl⟩ : ∃ m : Nat, n = (m : Int) := ⟨n.toNat, by omega⟩
    refine (refof_go A l c m _ w (by omega) rfl hr hl).mono ?_
    rintro e w' ⟨hp, hb⟩
    rw [← ofR_in l (by omega)] at hp
    exact ofIs_post hp hb
theorem putAll_len (n : Int) (l : List Int) : ∀ ws r, putAll n l ws = some r → r.length = ws.length := by
  induction l with
  | nil => intro ws r h; cases h; rfl
  | cons k l ih =>
    intro ws r h
    simp only [putAll] at h
    split at h
    · cases h
    · rw [ih _ _ h, modL_len]
theorem ofAns_len (l : List Int) (n : Int) : (ofAns l n).1.length ≤ 64 := by
  cases h : ofR l n with
  | none => simp [ofAns, h]
  | some ws =>
    simp only [ofAns, h]
    unfold ofR at h
    split at h
    · cases h
    · rw [putAll_len _ _ _ _ h]
      simp [zeros]
      omega

set_option maxRecDepth 100000 in
set_option maxHeartbeats 4000000 in
theorem asks_go (A S : Option Addr) (l : List Int) (s : List UInt64) (cl cs : Nat) (n k : Int) (w : World) (ha : Reads w w.heap.size 1 A l.length (intV l)) (hs : Reads w w.heap.size 1 S s.length (wordV s)) (ht : Tab w)
    (hl : l.length ≤ 60) (hl2 : s.length ≤ 10) (hk : k ≤ 9223372036854775807) :
    Calls Tryd.prog 4 #[.slice A l.length cl, .int .i64 n, .slice S s.length cs, .int .i64 k] w fun e w' => e = .returned (.bool true) ∧ Below w.heap.size w w' := by
  have HR := Lib.hid (And.intro ha (And.intro hs ht))
  clear ha hs ht
  go_enter Tryd.func4, Tryd.ntmps4
  go_wp2_with fail
  refine (of_any A l cl n w HR.out.1 (by omega)).mono ?_
  have hlen := ofAns_len l n
  have hpop := Lib.hid (pop_lst s)
  have hlst := lst_len s (64 * s.length)
  rintro e w1 ⟨A1, c1, rfl, hr1, hb1⟩
  have H1 := Lib.hid (And.intro hr1 hb1)
  clear hr1 hb1
  go_wp2_with fail
  refine (refof_any A l cl n w1 (HR.out.1.go H1.out.2) (by omega)).mono ?_
  rintro e w2 ⟨A2, c2, rfl, hr2, hb2⟩
  have H2 := Lib.hid (And.intro (H1.out.1.go hb2) (And.intro hr2 (bel_step H1.out.2 hb2)))
  clear hr2 hb2
  generalize (ofAns l n).1 = ws at *
  generalize (ofAns l n).2 = ec at *
  go_wp2_with fail
  refine (told_any w2 (HR.out.2.2.below H2.out.2.2 HR.out.2.2.1)).mono ?_
  rintro e w3 ⟨rfl, hb3⟩
  have H3 := Lib.hid (And.intro (H2.out.1.go hb3) (And.intro (H2.out.2.1.go hb3) (bel_step H2.out.2.2 hb3)))
  clear hb3
  go_wp2_with fail
  refine (words_same A1 A2 ws c1 c2 w3 H3.out.1 H3.out.2.1 (by omega)).mono ?_
  rintro e w4 ⟨rfl, hb4⟩
  have H4 := Lib.hid (bel_step H3.out.2.2 hb4)
  clear hb4
  go_wp2_with fail
  refine (has_any k S s cs w4 (HR.out.2.1.go H4.out) hk).mono ?_
  rintro e w5 ⟨rfl, rfl⟩
  go_wp2_with fail
  refine (hasbit_any k S s cs w4 (HR.out.2.1.go H4.out) hk).mono ?_
  rintro e w5 ⟨rfl, rfl⟩
  generalize hasB s k = hb
  go_wp2_with fail
  refine (list_any S s cs w4 (HR.out.2.1.go H4.out) (by omega) (HR.out.2.2.below H4.out HR.out.2.2.1)).mono ?_
  rintro e w5 ⟨v5, rfl, hg5⟩
  obtain ⟨A5, c5, hv, hr5⟩ := own_ints hg5
  subst hv
  have H5 := Lib.hid (And.intro hr5 (bel_step H4.out hg5.2))
  clear hr5 hg5
  go_wp2_with fail
  refine (bits_any S s cs w5 (HR.out.2.1.go H5.out.2) (by omega)).mono ?_
  rintro e w6 ⟨v6, rfl, hg6⟩
  obtain ⟨A6, c6, hv, hr6⟩ := own_ints hg6
  subst hv
  have H6 := Lib.hid (And.intro (H5.out.1.go hg6.2) (And.intro hr6 (bel_step H5.out.2 hg6.2)))
  clear hr6 hg6
  go_wp2_with fail
  refine (ints_same A5 A6 _ c5 c6 w6 H6.out.1 H6.out.2.1 (by omega)).mono ?_
  rintro e w7 ⟨rfl, hb7⟩
  have H7 := Lib.hid (bel_step H6.out.2.2 hb7)
  clear hb7
  go_wp2_with fail
  refine (count_any S s cs w7 (HR.out.2.1.go H7.out) (by omega)).mono ?_
  rintro e w8 ⟨rfl, rfl⟩
  go_wp2_with fail
  refine (bits_any S s cs w7 (HR.out.2.1.go H7.out) (by omega)).mono ?_
  rintro e w9 ⟨v9, rfl, hg9⟩
  obtain ⟨A9, c9, hv, hr9⟩ := own_ints hg9
  subst hv
  have H9 := Lib.hid (bel_step H7.out hg9.2)
  clear hr9 hg9
  rw [← hpop.out]
  go_wp2_with fail
  go_ret
  exact ⟨rfl, H9.out⟩
set_option maxHeartbeats 1000000 in
theorem asks_long (A S : Option Addr) (n1 n2 : Nat) (cl cs : Nat) (n k : Int) (w : World) (ht : Tab w) (h : 60 < n1 ∨ 10 < n2) :
    Calls Tryd.prog 4 #[.slice A n1 cl, .int .i64 n, .slice S n2 cs, .int .i64 k] w fun e w' => e = .returned (.bool true) ∧ Below w.heap.size w w' := by
  have HT := Lib.hid ht
  clear ht
  by_cases h1 : 60 < n1
  · clear h
    go_enter Tryd.func4, Tryd.ntmps4
    go_wp2_with fail
    refine (told_any w HT.out).mono ?_
    rintro e w1 ⟨rfl, hb1⟩
    have HB := Lib.hid hb1
    clear hb1
    go_wp2_with fail
    go_ret
    exact ⟨rfl, HB.out⟩
  · have h2 : 10 < n2 := by omega
    clear h
    go_enter Tryd.func4, Tryd.ntmps4
    go_wp2_with fail
    refine (told_any w HT.out).mono ?_
    rintro e w1 ⟨rfl, hb1⟩
    have HB := Lib.hid hb1
    clear hb1
    go_wp2_with fail
    go_ret
    exact ⟨rfl, HB.out⟩
theorem asks_any (A S : Option Addr) (l : List Int) (s : List UInt64) (cl cs : Nat) (n k : Int) (w : World) (ha : Reads w w.heap.size 1 A l.length (intV l)) (hs : Reads w w.heap.size 1 S s.length (wordV s)) (ht : Tab w) (hk : k ≤ 9223372036854775807) :
    Calls Tryd.prog 4 #[.slice A l.length cl, .int .i64 n, .slice S s.length cs, .int .i64 k] w fun e w' => e = .returned (.bool true) ∧ Below w.heap.size w w' := by
  by_cases h : 60 < l.length ∨ 10 < s.length
  · exact asks_long A S _ _ cl cs n k w ht h
  · exact asks_go A S l s cl cs n k w ha hs ht (by omega) (by omega) hk
end Go.Proofs.YtfmdloomjnmpgaaDoor
