/-
  'Of' and 'Words': the set of a list's numbers below a bound, or an error.
-/
import Derived.Test.YtfmdloomjnmpgaaDoorMake
import Derived.Test.YtfmdloomjnmpgaaDoorSame
import Derived.Deep.LoopGhost
namespace Go.Proofs.YtfmdloomjnmpgaaDoor
open Go.RowKit

/-- The words of a list's numbers, put into words one behind the other; none: one is out of range. -/
def putAll (n : Int) : List Int → List UInt64 → Option (List UInt64)
  | [], ws => some ws
  | k :: l, ws => if k < 0 ∨ n ≤ k then none else putAll n l (modL setW ws k)
def zeros (m : Nat) : List UInt64 := List.replicate m 0
/-- The answer of 'Of'. -/
def ofR (l : List Int) (n : Int) : Option (List UInt64) := if n < 0 ∨ 4096 < n then none else putAll n l (zeros ((n.toNat + 63) / 64))
def OfPost (base : Nat) (r : Option (List UInt64)) (e : Ending) (w' : World) : Prop :=
  match r with
  | none => e = .returned (.tuple #[.slice none 0 0, .int .i64 1])
  | some ws => ∃ v, e = .returned (.tuple #[v, .int .i64 0]) ∧ w'.ownsRow base 43 1 v ws.length (wordV ws)

set_option maxHeartbeats 1000000 in
theorem of_range (A : Option Addr) (l : Nat) (c : Nat) (n : Int) (w : World) (h : n < 0 ∨ 4096 < n) :
    Calls Tryd.prog 8 #[.slice A l c, .int .i64 n] w fun e w' => e = .returned (.tuple #[.slice none 0 0, .int .i64 1]) ∧ w = w' := by
  rcases h with h | h
  · go_enter Tryd.func8, Tryd.ntmps8
    go_wp2_with fail
    go_ret2
    exact ⟨rfl, rfl⟩
  · have h2 : ¬ n < 0 := by omega
    go_enter Tryd.func8, Tryd.ntmps8
    go_wp2_with fail
    go_ret2
    exact ⟨rfl, rfl⟩

theorem make_words (m : Nat) (x : Int) (hx : x = (m : Int)) (hm : m ≤ 1000000) (w : World) :
    (Instr.makeSlice 25 (.int .i64 x) (.int .i64 x)).run Tryd.prog w = .ok (.slice (some ⟨w.heap.size, 0, none⟩) m m) (w.alloc (.cells (madeCells #[.int .u64 0] m) 43)) := by
  subst hx
  obtain ⟨i0, hi0, hz0, hz1, hz2⟩ := info_parts info43
  have hr := run_make (P := Tryd.prog) w 25 43 i0 _ Tryd.underlying25 hi0 hz0 .i64 .i64 m m (by omega) (Int.le_refl _) (by rw [hz2]; omega) (by omega)
  simp only [Int.toNat_natCast, hz1, Nat.mul_one] at hr
  exact hr
theorem made_words (w : World) (m : Nat) (hm : m ≤ 1000000) : (w.alloc (.cells (madeCells #[.int .u64 0] m) 43)).ownsRow w.heap.size 43 1 (.slice (some ⟨w.heap.size, 0, none⟩) m m) m (wordV (zeros m)) := by
  have h := World.ownsRow_lit (base := w.heap.size) (e := 43) (size := 1) w (madeCells #[.int .u64 0] m) m (Nat.le_refl _) (by simp only [maxLen]; omega) (by simp [madeCells])
  rw [toList_madeCells_one] at h
  have e : wordV (zeros m) = List.replicate m (.int .u64 0) := by simp [wordV, zeros]
  rw [e]
  exact h
theorem putAll_bad {n : Int} {l : List Int} {k : Nat} {x : Int} (ws : List UInt64) (h : l[k]? = some x) (hx : x < 0 ∨ n ≤ x) : putAll n (l.drop k) ws = none := by
  have hk : k < l.length := by
    rcases Nat.lt_or_ge k l.length with h1 | h1
    · exact h1
    · rw [List.getElem?_eq_none h1] at h; cases h
  rw [List.drop_eq_getElem_cons hk]
  rw [List.getElem?_eq_getElem hk] at h
  cases h
  simp only [putAll, if_pos hx]
theorem putAll_step {n : Int} {l : List Int} {k : Nat} {x : Int} (ws : List UInt64) (h : l[k]? = some x) (hx : ¬ (x < 0 ∨ n ≤ x)) : putAll n (l.drop k) ws = putAll n (l.drop (k + 1)) (modL setW ws x) := by
  have hk : k < l.length := by
    rcases Nat.lt_or_ge k l.length with h1 | h1
    · exact h1
    · rw [List.getElem?_eq_none h1] at h; cases h
  rw [List.drop_eq_getElem_cons hk]
  rw [List.getElem?_eq_getElem hk] at h
  cases h
  simp only [putAll, if_neg hx]
/-- What holds at the head of each round. -/
def Puts (w : World) (n : Int) (l : List Int) (m k : Nat) (wr : World) : Prop :=
  ∃ ws, wr.ownsRow w.heap.size 43 1 (.slice (some ⟨w.heap.size, 0, none⟩) m m) m (wordV ws) ∧ ws.length = m ∧ putAll n (l.drop k) ws = putAll n l (zeros m) ∧ Below w.heap.size w wr
theorem ofpost_none {base : Nat} {w' : World} {r : Option (List UInt64)} (h : r = none) : OfPost base r (.returned (.tuple #[.slice none 0 0, .int .i64 1])) w' := by
  subst h
  rfl
theorem ofpost_some {base : Nat} {w' : World} {r : Option (List UInt64)} {ws : List UInt64} {v : Value} (h : r = some ws) (ho : w'.ownsRow base 43 1 v ws.length (wordV ws)) : OfPost base r (.returned (.tuple #[v, .int .i64 0])) w' := by
  subst h
  exact ⟨v, rfl, ho⟩

set_option maxHeartbeats 1000000 in
theorem of_go (A : Option Addr) (l : List Int) (c n m : Nat) (w : World) (hn : n ≤ 4096) (hm : m = (n + 63) / 64) (hr : Reads w w.heap.size 1 A l.length (intV l)) (hl : l.length ≤ 1000000) :
    Calls Tryd.prog 8 #[.slice A l.length c, .int .i64 n] w fun e w' => OfPost w.heap.size (putAll n l (zeros m)) e w' ∧ Below w.heap.size w w' := by
  have HR := Lib.hid (And.intro hr hm)
  have hmk := make_words m (((n : Int) + 64 - 1) / 64) (by omega) (by omega)
  have hm6 : m ≤ 64 := by omega
  have HB : Hid (Puts w n l m 0 (w.alloc (.cells (madeCells #[.int .u64 0] m) 43))) := Lib.hid ⟨_, made_words w m (by omega), by simp [zeros], rfl, (Below.refl _ _).alloc (Nat.le_refl _) _⟩
  clear hr hm
  go_enter Tryd.func8, Tryd.ntmps8
  go_wp2_with fail
  go_loopw [22] (fun i wr => ∃ k : Nat, k ≤ l.length ∧ i = .int .i64 k ∧ Hid (Puts w n l m k wr)) (fun i _ => l.length - (intOf i).toNat)
  case atStart => exact ⟨0, Nat.zero_le _, rfl, HB⟩
  case round =>
    obtain ⟨k, hk, rfl, HP⟩ := hrel
    clear HB hmk
    obtain ⟨ws, hown, hlen, hput, hbel⟩ := HP.out
    by_cases hlt : k < l.length
    · obtain ⟨ad, x, rfl, hab, hx, hc⟩ := ints_at HR.out.1 hlt
      have hc2 : wr.cell? (ad.add k) = some (.int .i64 x) := (hbel.cell (p := ad.add k) (by rw [block_of_add]; exact hab)).trans hc
      have HQ := Lib.hid (And.intro hx (And.intro hown (And.intro hlen (And.intro hput hbel))))
      clear hx hown hlen hput hbel hc hab
      by_cases hx0 : x < 0
      · have HN := Lib.hid (HQ.out.2.2.2.1.symm.trans (putAll_bad ws HQ.out.1 (.inl hx0)))
        go_wp2_with fail
        go_ret2
        exact ⟨ofpost_none HN.out, HQ.out.2.2.2.2⟩
      · by_cases hxn : (n : Int) ≤ x
        · have HN := Lib.hid (HQ.out.2.2.2.1.symm.trans (putAll_bad ws HQ.out.1 (.inr hxn)))
          go_wp2_with fail
          go_ret2
          exact ⟨ofpost_none HN.out, HQ.out.2.2.2.2⟩
        · have HS := Lib.hid (putAll_step (n := n) ws HQ.out.1 (by omega))
          obtain ⟨q, rfl⟩ : ∃ q : Nat, x = (q : Int) := ⟨x.toNat, by omega⟩
          have hq : q / 64 < m := by have := HR.out.2; omega
          have hy : ws[q / 64]? = some (ws[q / 64]'(by have := HQ.out.2.2.1; omega)) := List.getElem?_eq_getElem _
          obtain ⟨y, hy⟩ : ∃ y, ws[q / 64]? = some y := ⟨_, hy⟩
          have hcw : wr.cell? ⟨w.heap.size, q / 64, none⟩ = some (.int .u64 y.toNat) := by
            rw [HQ.out.2.1.cellAt _ (by omega)]
            simp [wordV, hy]
          have hfw : wr.frozen? ⟨w.heap.size, q / 64, none⟩ = false := HQ.out.2.1.frozenAt _
          have HY : Hid (Puts w n l m (k + 1) (wr.setCell ⟨w.heap.size, q / 64, none⟩ (.int .u64 (bits .or .u64 (y.toNat : Int) (IntKind.u64.wrap (2 ^ (q % 64))))))) := by
            have hs := HQ.out.2.1.stored (q / 64) (.int .u64 (setW y (q % 64)).toNat)
            rw [or_bit y (Nat.mod_lt _ (by decide))]
            refine ⟨_, ?_, ?_, HS.out.symm.trans HQ.out.2.2.2.1, HQ.out.2.2.2.2.setCell (Nat.le_refl _) _⟩
            · have e : wordV (modL setW ws q) = (wordV ws).set (q / 64) (.int .u64 (setW y (q % 64)).toNat) := by rw [modL_in _ _ hy]; simp [wordV, List.map_set]
              rw [e]
              exact hs.1
            · rw [modL_len]
              exact HQ.out.2.2.1
          clear hy
          go_wp2_with fail
          go_roundw
          case rel => exact ⟨k + 1, by omega, by go_num, HY⟩
          case measure => simp [intOf]; omega
    · have e : putAll n l (zeros m) = some ws := by
        rw [← hput, List.drop_eq_nil_of_le (by omega)]
        rfl
      subst hlen
      have HQ := Lib.hid (And.intro e (And.intro hown hbel))
      clear e hown hput hbel
      go_wp2_with fail
      go_ret2
      exact ⟨ofpost_some HQ.out.1 HQ.out.2.1, HQ.out.2.2⟩
end Go.Proofs.YtfmdloomjnmpgaaDoor
