/-
  'words' and 'SameInts': are two lists the same, one by one?
-/
import Derived.Test.YtfmdloomjnmpgaaDoorCount
import Derived.Deep.QuietTactic
import Derived.BigQuiet
namespace Go.Proofs.YtfmdloomjnmpgaaDoor
open Go.RowKit

def intV (l : List Int) : List Value := l.map fun x => .int .i64 x
theorem intV_len (l : List Int) : (intV l).length = l.length := by simp [intV]
theorem ints_at {w : World} {B n : Nat} {A : Option Addr} {l : List Int} (h : Reads w B 1 A n (intV l)) {k : Nat} (hk : k < n) :
    ∃ ad x, A = some ad ∧ ad.block < B ∧ l[k]? = some x ∧ w.cell? (ad.add k) = some (.int .i64 x) := by
  obtain ⟨ad, u, hA, hb, hx, hc⟩ := h.at_ hk
  simp only [intV, List.getElem?_map] at hx
  cases hl : l[k]? with
  | none => rw [hl] at hx; cases hx
  | some x =>
    rw [hl] at hx
    cases hx
    exact ⟨ad, x, hA, hb, rfl, hc⟩

theorem same_len {α : Type} {a b : List α} (h : a.length ≠ b.length) : a ≠ b := fun e => h (by rw [e])
theorem same_step {α : Type} {a b : List α} {k : Nat} (h : ∀ j, j < k → a[j]? = b[j]?) (hk : a[k]? = b[k]?) : ∀ j, j < k + 1 → a[j]? = b[j]? := by
  intro j hj
  rcases Nat.lt_or_ge j k with h1 | h1
  · exact h j h1
  · obtain rfl : j = k := by omega
    exact hk
theorem same_all {α : Type} {a b : List α} (hl : a.length = b.length) (h : ∀ j, j < a.length → a[j]? = b[j]?) : a = b := by
  apply List.ext_getElem? 
  intro j
  rcases Nat.lt_or_ge j a.length with h1 | h1
  · exact h j h1
  · rw [List.getElem?_eq_none h1, List.getElem?_eq_none (by omega)]

set_option maxHeartbeats 1000000 in
theorem words_len (A B : Option Addr) (a b : List UInt64) (c d : Nat) (w : World) (h : a.length ≠ b.length) :
    Calls Tryd.prog 13 #[.slice A a.length c, .slice B b.length d] w fun e w' => e = .returned (.bool false) ∧ ∃ n, w' = w.drewN n := by
  have h2 : ((a.length : Int) == (b.length : Int)) = false := by simp; omega
  have h3 : ((a.length : Int) != (b.length : Int)) = true := by simp; omega
  go_enter Tryd.func13, Tryd.ntmps13
  go_wp2_with fail
  go_ret
  exact ⟨rfl, 0, rfl⟩

set_option maxHeartbeats 1000000 in
theorem words_go (A B : Option Addr) (a b : List UInt64) (c d : Nat) (w : World) (ha : Reads w w.heap.size 1 A a.length (wordV a)) (hb : Reads w w.heap.size 1 B b.length (wordV b)) (h : a.length = b.length) (hl : a.length ≤ 1000000) :
    Calls Tryd.prog 13 #[.slice A a.length c, .slice B b.length d] w fun e w' => e = .returned (.bool (decide (a = b))) ∧ ∃ n, w' = w.drewN n := by
  have h2 : ((a.length : Int) == (b.length : Int)) = true := by simp; omega
  have h3 : ((a.length : Int) != (b.length : Int)) = false := by simp; omega
  have HL := Lib.hid h
  have HR := Lib.hid (And.intro ha hb)
  clear h ha hb
  go_enter Tryd.func13, Tryd.ntmps13
  go_wp2_with fail
  clear h2 h3
  go_loopw [5] (fun i wr => ∃ k n : Nat, k ≤ a.length ∧ i = .int .i64 k ∧ Hid (∀ j, j < k → a[j]? = b[j]?) ∧ wr = w.drewN n) (fun i _ => a.length - (intOf i).toNat)
  case atStart => exact ⟨0, 0, Nat.zero_le _, rfl, Lib.hid (fun _ h => absurd h (by omega)), rfl⟩
  case round =>
    obtain ⟨k, n, hk, rfl, HS, rfl⟩ := hrel
    by_cases hlt : k < a.length
    · obtain ⟨ad, x, rfl, _, hx, hc⟩ := words_at HR.out.1 hlt
      obtain ⟨bd, y, rfl, _, hy, hd⟩ := words_at HR.out.2 (HL.out ▸ hlt)
      have HX := Lib.hid (And.intro hx hy)
      have hltb : k < b.length := HL.out ▸ hlt
      clear hx hy
      by_cases he : x = y
      · subst he
        have hs : Hid (∀ j, j < k + 1 → a[j]? = b[j]?) := Lib.hid (same_step HS.out (HX.out.1.trans HX.out.2.symm))
        go_wp2_with fail
        go_quiet (fail)
        go_wp2_with fail
        go_roundw
        case rel => exact ⟨k + 1, _, by omega, by go_num, hs, rfl⟩
        case measure => simp [intOf]; omega
      · have e1 : ((x.toNat : Int) == (y.toNat : Int)) = false := by
          simp
          exact fun h => he (UInt64.toNat_inj.1 (by omega))
        have e2 : ((x.toNat : Int) != (y.toNat : Int)) = true := by simp [bne, e1]
        have hno : Hid (a ≠ b) := Lib.hid (fun h => by
          subst h
          have h1 := HX.out.1
          rw [HX.out.2] at h1
          cases h1
          exact he rfl)
        clear he
        go_wp2_with fail
        go_quiet (fail)
        go_wp2_with fail
        go_ret
        exact ⟨ret_bool (by simp [hno.out]), _, World.drewN_drewN _ _ _⟩
    · have hyes : Hid (a = b) := Lib.hid (same_all HL.out (fun j hj => HS.out j (by omega)))
      go_wp2_with fail
      go_ret
      exact ⟨ret_bool (by simp [hyes.out]), _, rfl⟩
theorem words_any (A B : Option Addr) (a b : List UInt64) (c d : Nat) (w : World) (ha : Reads w w.heap.size 1 A a.length (wordV a)) (hb : Reads w w.heap.size 1 B b.length (wordV b)) (hl : a.length ≤ 1000000) :
    Calls Tryd.prog 13 #[.slice A a.length c, .slice B b.length d] w fun e w' => e = .returned (.bool (decide (a = b))) ∧ ∃ n, w' = w.drewN n := by
  by_cases h : a.length = b.length
  · exact words_go A B a b c d w ha hb h hl
  · rw [show decide (a = b) = false from decide_eq_false (same_len h)]
    exact words_len A B a b c d w h

set_option maxHeartbeats 1000000 in
theorem sameints_len (A B : Option Addr) (a b : List Int) (c d : Nat) (w : World) (h : a.length ≠ b.length) :
    Calls Tryd.prog 15 #[.slice A a.length c, .slice B b.length d] w fun e w' => e = .returned (.bool false) ∧ ∃ n, w' = w.drewN n := by
  have h2 : ((a.length : Int) == (b.length : Int)) = false := by simp; omega
  have h3 : ((a.length : Int) != (b.length : Int)) = true := by simp; omega
  go_enter Tryd.func15, Tryd.ntmps15
  go_wp2_with fail
  go_ret
  exact ⟨rfl, 0, rfl⟩

set_option maxHeartbeats 1000000 in
theorem sameints_go (A B : Option Addr) (a b : List Int) (c d : Nat) (w : World) (ha : Reads w w.heap.size 1 A a.length (intV a)) (hb : Reads w w.heap.size 1 B b.length (intV b)) (h : a.length = b.length) (hl : a.length ≤ 1000000) :
    Calls Tryd.prog 15 #[.slice A a.length c, .slice B b.length d] w fun e w' => e = .returned (.bool (decide (a = b))) ∧ ∃ n, w' = w.drewN n := by
  have h2 : ((a.length : Int) == (b.length : Int)) = true := by simp; omega
  have h3 : ((a.length : Int) != (b.length : Int)) = false := by simp; omega
  have HL := Lib.hid h
  have HR := Lib.hid (And.intro ha hb)
  clear h ha hb
  go_enter Tryd.func15, Tryd.ntmps15
  go_wp2_with fail
  clear h2 h3
  go_loopw [5] (fun i wr => ∃ k n : Nat, k ≤ a.length ∧ i = .int .i64 k ∧ Hid (∀ j, j < k → a[j]? = b[j]?) ∧ wr = w.drewN n) (fun i _ => a.length - (intOf i).toNat)
  case atStart => exact ⟨0, 0, Nat.zero_le _, rfl, Lib.hid (fun _ h => absurd h (by omega)), rfl⟩
  case round =>
    obtain ⟨k, n, hk, rfl, HS, rfl⟩ := hrel
    by_cases hlt : k < a.length
    · obtain ⟨ad, x, rfl, _, hx, hc⟩ := ints_at HR.out.1 hlt
      obtain ⟨bd, y, rfl, _, hy, hd⟩ := ints_at HR.out.2 (HL.out ▸ hlt)
      have HX := Lib.hid (And.intro hx hy)
      have hltb : k < b.length := HL.out ▸ hlt
      clear hx hy
      by_cases he : x = y
      · subst he
        have hs : Hid (∀ j, j < k + 1 → a[j]? = b[j]?) := Lib.hid (same_step HS.out (HX.out.1.trans HX.out.2.symm))
        go_wp2_with fail
        go_quiet (fail)
        go_wp2_with fail
        go_roundw
        case rel => exact ⟨k + 1, _, by omega, by go_num, hs, rfl⟩
        case measure => simp [intOf]; omega
      · have e1 : ((x : Int) == (y : Int)) = false := by
          simp [he]
        have e2 : ((x : Int) != (y : Int)) = true := by simp [bne, e1]
        have hno : Hid (a ≠ b) := Lib.hid (fun h => by
          subst h
          have h1 := HX.out.1
          rw [HX.out.2] at h1
          cases h1
          exact he rfl)
        clear he
        go_wp2_with fail
        go_quiet (fail)
        go_wp2_with fail
        go_ret
        exact ⟨ret_bool (by simp [hno.out]), _, World.drewN_drewN _ _ _⟩
    · have hyes : Hid (a = b) := Lib.hid (same_all HL.out (fun j hj => HS.out j (by omega)))
      go_wp2_with fail
      go_ret
      exact ⟨ret_bool (by simp [hyes.out]), _, rfl⟩
theorem sameints_any (A B : Option Addr) (a b : List Int) (c d : Nat) (w : World) (ha : Reads w w.heap.size 1 A a.length (intV a)) (hb : Reads w w.heap.size 1 B b.length (intV b)) (hl : a.length ≤ 1000000) :
    Calls Tryd.prog 15 #[.slice A a.length c, .slice B b.length d] w fun e w' => e = .returned (.bool (decide (a = b))) ∧ ∃ n, w' = w.drewN n := by
  by_cases h : a.length = b.length
  · exact sameints_go A B a b c d w ha hb h hl
  · rw [show decide (a = b) = false from decide_eq_false (same_len h)]
    exact sameints_len A B a b c d w h

end Go.Proofs.YtfmdloomjnmpgaaDoor
