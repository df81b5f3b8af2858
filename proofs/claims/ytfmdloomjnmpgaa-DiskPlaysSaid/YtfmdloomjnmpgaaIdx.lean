/-
  slices.IndexFunc over faults, with the disk's own closure: the place of the first fault of a call, or -1.
-/
import Derived.Test.YtfmdloomjnmpgaaClone
import Derived.Deep.LoopGhost
namespace Go.Proofs.Ytfmdloomjnmpgaa
open Go.RowKit

def faultCells (fs : List (Int × Int)) : List Value := fs.flatMap fun f => [.int .i64 f.1, .int .i64 f.2]
theorem faultCells_len (fs : List (Int × Int)) : (faultCells fs).length = fs.length * 2 := by
  induction fs with
  | nil => rfl
  | cons f r ih => simp only [faultCells, List.flatMap_cons, List.length_append] at ih ⊢; simp [ih]; omega
theorem faultCells_at0 (fs : List (Int × Int)) (k : Nat) (h : k < fs.length) : (faultCells fs)[k * 2]? = some (.int .i64 fs[k].1) := by
  induction fs generalizing k with
  | nil => simp at h
  | cons f r ih =>
    cases k with
    | zero => simp [faultCells]
    | succ k =>
      have := ih k (by simpa using h)
      simp only [faultCells, List.flatMap_cons] at this ⊢
      rw [List.getElem?_append_right (by simp; omega)]
      simpa [show (k + 1) * 2 - 2 = k * 2 by omega] using this
theorem faultCells_at1 (fs : List (Int × Int)) (k : Nat) (h : k < fs.length) : (faultCells fs)[k * 2 + 1]? = some (.int .i64 fs[k].2) := by
  induction fs generalizing k with
  | nil => simp at h
  | cons f r ih =>
    cases k with
    | zero => simp [faultCells]
    | succ k =>
      have := ih k (by simpa using h)
      simp only [faultCells, List.flatMap_cons] at this ⊢
      rw [List.getElem?_append_right (by simp; omega)]
      simpa [show (k + 1) * 2 + 1 - 2 = k * 2 + 1 by omega] using this
theorem faultCells_one (fs : List (Int × Int)) : ∀ u ∈ faultCells fs, u.oneCell' = true := by
  intro u hu
  simp only [faultCells, List.mem_flatMap] at hu
  obtain ⟨f, _, h⟩ := hu
  rcases List.mem_cons.1 h with rfl | h
  · rfl
  · rcases List.mem_cons.1 h with rfl | h
    · rfl
    · cases h

set_option maxHeartbeats 400000 in
theorem isAt_any (a k n : Int) (g : Nat) (w : World) (hc : w.cell? ⟨g, 0, none⟩ = some (.int .i64 n)) :
    Calls Try.prog 30 #[.agg #[.int .i64 a, .int .i64 k], .pointer (some ⟨g, 0, none⟩)] w fun e w' => e = .returned (.bool (a == n)) ∧ Below w.heap.size w w' := by
  have hg : g < w.heap.size := World.block_lt_of_cell? w _ hc
  have hne : g ≠ w.heap.size := by omega
  go_enter Try.func30, Try.ntmps30
  go_wp2
  go_ret
  exact ⟨rfl, (Below.refl _ _).alloc (Nat.le_refl _) _⟩

/-- The place of the first fault that strikes at a call; as many as there are: none. -/
def hitAt (fs : List (Int × Int)) (n : Int) : Nat := fs.findIdx (·.1 == n)
def hitInt (fs : List (Int × Int)) (n : Int) : Int := if hitAt fs n < fs.length then (hitAt fs n : Int) else -1

theorem own2_at {w : World} {base n c : Nat} {A : Option Addr} {fs : List (Int × Int)} (h : w.ownsRow base 44 2 (.slice A n c) n (faultCells fs)) {k : Nat} (hk : k < fs.length) :
    ∃ b, A = some ⟨b, 0, none⟩ ∧ b < w.heap.size ∧ w.cell? ⟨b, k * 2, none⟩ = some (.int .i64 fs[k].1) ∧ w.cell? ⟨b, k * 2 + 1, none⟩ = some (.int .i64 fs[k].2) := by
  have hn : n = fs.length := by have := h.1; rw [faultCells_len] at this; omega
  obtain ⟨b, cap, hv, hb, hlt⟩ := h.form (by omega)
  injection hv with hA
  subst hA
  have hc := h.cells (g := b) rfl
  have h0 := hc _ _ (faultCells_at0 fs k hk)
  have h1 := hc _ _ (faultCells_at1 fs k hk)
  rw [Addr.add_lit, Nat.zero_add] at h0 h1
  exact ⟨b, rfl, hlt, h0, h1⟩

theorem hit_at {fs : List (Int × Int)} {n : Int} {k : Nat} (h : k < fs.length) (hk : k ≤ hitAt fs n) (ht : (fs[k].1 == n) = true) : hitInt fs n = k := by
  have h2 : hitAt fs n ≤ k := by
    rcases Nat.lt_or_ge k (hitAt fs n) with h3 | h3
    · have := List.not_of_lt_findIdx (xs := fs) (p := (·.1 == n)) h3
      rw [ht] at this
      cases this
    · exact h3
  have e : hitAt fs n = k := by omega
  simp [hitInt, e, h]
theorem hit_more {fs : List (Int × Int)} {n : Int} {k : Nat} (h : k < fs.length) (hk : k ≤ hitAt fs n) (ht : (fs[k].1 == n) = false) : k + 1 ≤ hitAt fs n := by
  rcases Nat.lt_or_ge k (hitAt fs n) with h2 | h2
  · exact h2
  · have e : hitAt fs n = k := by omega
    have := List.findIdx_getElem (xs := fs) (p := (·.1 == n)) (w := by rw [show fs.findIdx (·.1 == n) = k from e]; exact h)
    simp only [show fs.findIdx (·.1 == n) = k from e] at this
    rw [ht] at this
    cases this
theorem hit_none {fs : List (Int × Int)} {n : Int} {k : Nat} (h : k = fs.length) (hk : k ≤ hitAt fs n) : hitInt fs n = -1 := by
  have : ¬ hitAt fs n < fs.length := by omega
  simp [hitInt, this]

set_option maxHeartbeats 400000 in
theorem indexFunc_any (fs : List (Int × Int)) (A : Option Addr) (c : Nat) (n : Int) (g base : Nat) (w : World) (hr : w.ownsRow base 44 2 (.slice A fs.length c) fs.length (faultCells fs)) (hl : fs.length ≤ 8796093022208) (hc : w.cell? ⟨g, 0, none⟩ = some (.int .i64 n)) :
    Calls Try.prog 29 #[.slice A fs.length c, .func (Fn.func 30) #[] #[.pointer (some ⟨g, 0, none⟩)]] w fun e w' => e = .returned (.int .i64 (hitInt fs n)) ∧ Below w.heap.size w w' := by
  have hg : g < w.heap.size := World.block_lt_of_cell? w _ hc
  go_enter Try.func29, Try.ntmps29
  go_wp2_with fail
  go_loopw [8] (fun i wr => ∃ k : Nat, k ≤ fs.length ∧ k ≤ hitAt fs n ∧ i = .int .i64 k ∧ Below w.heap.size w wr) (fun i _ => fs.length - (intOf i).toNat)
  case atStart => exact ⟨0, Nat.zero_le _, Nat.zero_le _, rfl, Below.refl _ _⟩
  case round =>
    obtain ⟨k, hk, hk2, rfl, hb⟩ := hrel
    by_cases hlt : k < fs.length
    · obtain ⟨b, rfl, had, h0, h1⟩ := own2_at hr hlt
      have g0 : wr.cell? ⟨b, k * 2, none⟩ = _ := (hb.cell (p := ⟨b, k * 2, none⟩) had).trans h0
      have g1 : wr.cell? ⟨b, k * 2 + 1, none⟩ = _ := (hb.cell (p := ⟨b, k * 2 + 1, none⟩) had).trans h1
      have gc : wr.cell? ⟨g, 0, none⟩ = some (.int .i64 n) := (hb.cell (p := ⟨g, 0, none⟩) hg).trans hc
      cases ht : (fs[k].1 == n) with
      | true =>
        have hh := hit_at hlt hk2 ht
        have Ht := Lib.hid ht
        clear ht
        go_wp2_with fail
        refine (isAt_any _ _ n g wr gc).mono ?_
        rintro e w1 ⟨rfl, hb1⟩
        rw [Ht.out]
        go_wp2
        go_ret
        exact ⟨by rw [hh]; rfl, hb.trans (hb1.mono hb.size)⟩
      | false =>
        have hh := hit_more hlt hk2 ht
        have Ht := Lib.hid ht
        clear ht
        go_wp2_with fail
        refine (isAt_any _ _ n g wr gc).mono ?_
        rintro e w1 ⟨rfl, hb1⟩
        rw [Ht.out]
        go_wp2
        go_roundw
        case rel => exact ⟨k + 1, by omega, hh, by go_num, hb.trans (hb1.mono hb.size)⟩
        case measure => simp [intOf]; omega
    · have hh := hit_none (Nat.le_antisymm hk (by omega)) hk2
      go_wp2
      go_ret
      exact ⟨by rw [hh]; rfl, hb⟩
end Go.Proofs.Ytfmdloomjnmpgaa
