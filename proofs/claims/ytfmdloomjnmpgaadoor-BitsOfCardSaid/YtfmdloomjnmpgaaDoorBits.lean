/-
  The reference's 'Bits': the list of a set's numbers, asked one by one.
-/
import Derived.Test.YtfmdloomjnmpgaaDoorMake
import Derived.Test.YtfmdloomjnmpgaaDoorSame
namespace Go.Proofs.YtfmdloomjnmpgaaDoor
open Go.RowKit

/-- A set's numbers below n, as they rise. -/
def lst (l : List UInt64) (n : Nat) : List Int := ((List.range n).filter (bitAt l)).map fun k : Nat => (k : Int)
theorem lst_len (l : List UInt64) (n : Nat) : (lst l n).length ≤ n := by
  have := List.length_filter_le (bitAt l) (List.range n)
  simpa [lst] using this
theorem lst_yes {l : List UInt64} {n : Nat} (h : bitAt l n = true) : lst l (n + 1) = lst l n ++ [(n : Int)] := by
  simp [lst, List.range_succ, List.filter_append, h]
theorem lst_no {l : List UInt64} {n : Nat} (h : bitAt l n = false) : lst l (n + 1) = lst l n := by
  simp [lst, List.range_succ, List.filter_append, h]
theorem intV_append (a b : List Int) : intV (a ++ b) = intV a ++ intV b := by simp [intV]
theorem intV_one (l : List Int) : ∀ u ∈ intV l, u.oneCell' = true := by
  intro u hu
  obtain ⟨_, _, rfl⟩ := List.mem_map.1 hu
  rfl
/-- A list of the call's own. -/
def Got (w : World) (xs : List Int) (v : Value) (wr : World) : Prop := wr.ownsRow w.heap.size 3 1 v xs.length (intV xs) ∧ Below w.heap.size w wr
theorem got_nil (w : World) : Got w [] (.slice none 0 0) w := ⟨World.ownsRow_nil _ _ _ _, Below.refl _ _⟩
theorem reads_new (w : World) (x : Int) (t : TypeId) : Reads (w.alloc (.cells #[.int .i64 x] t)) (w.heap.size + 1) 1 (some ⟨w.heap.size, 0, none⟩) 1 [.int .i64 x] := by
  refine ⟨rfl, fun _ => ⟨_, rfl, Nat.lt_succ_self _, fun j u hu => ?_⟩⟩
  have hj : j = 0 := by
    rcases j with _ | j
    · rfl
    · simp at hu
  subst hj
  cases hu
  exact (Blk.new w t #[.int .i64 x]).cell 0
theorem got_more {w wr w1 : World} {xs : List Int} {v v1 : Value} {x : Int} {o : Obj} (h : Got w xs v wr) (ho : w1.ownsRow w.heap.size 3 1 v1 (xs.length + 1) (intV xs ++ [.int .i64 x])) (hg : (wr.alloc o).grownBy w1 v.ownBlock) : Got w (xs ++ [x]) v1 w1 := by
  refine ⟨?_, (h.2.alloc h.2.size o).grown hg (by have := h.2.size; simp; omega) (fun k hk => (h.1.lt k hk).1)⟩
  rw [intV_append, List.length_append]
  exact ho

set_option maxHeartbeats 1000000 in
theorem bits_any (A : Option Addr) (l : List UInt64) (c : Nat) (w : World) (hr : Reads w w.heap.size 1 A l.length (wordV l)) (hl : l.length ≤ 100) :
    Calls Tryd.prog 17 #[.slice A l.length c] w fun e w' => ∃ v, e = .returned v ∧ Got w (lst l (64 * l.length)) v w' := by
  obtain ⟨i0, hi0, hz0, hz1, hz2⟩ := info_parts info3
  have HR := Lib.hid hr
  clear hr
  go_enter Tryd.func17, Tryd.ntmps17
  go_wp2_with fail
  go_loopw [3, 4] (fun v i wr => ∃ k : Nat, k ≤ 64 * l.length ∧ i = .int .i64 k ∧ Hid (Got w (lst l k) v wr)) (fun _ i _ => 64 * l.length - (intOf i).toNat)
  case atStart => exact ⟨0, Nat.zero_le _, rfl, Lib.hid (got_nil w)⟩
  case round =>
    obtain ⟨k, hk, rfl, HG⟩ := hrel
    rename_i v i
    obtain ⟨A3, c3, hv, _⟩ := own_slice HG.out.1
    subst hv
    by_cases hlt : k < 64 * l.length
    · have h1 : Reads wr wr.heap.size 1 A l.length (wordV l) := (HR.out.below HG.out.2).more HG.out.2.size
      have H1 := Lib.hid h1
      clear h1
      cases hb : bitAt l k with
      | true =>
        have hh : hasB l k = true := by simp [hasB, hb]
        have HH := Lib.hid (And.intro hh (lst_yes hb))
        have hx := lst_len l k
        clear hh hb
        go_wp2_with fail
        refine (hasbit_any k A l c wr H1.out (by omega)).mono ?_
        rw [HH.out.1]
        rintro e w1 ⟨rfl, rfl⟩
        go_wp2_with (at_builtin; refine wpList_append_any _ rfl (.tmp 15) (.tmp 17) _ rfl w.heap.size 3 i0 _ 1 8 Tryd.underlying22 hi0 hz0 hz1 hz2 rfl (by omega) (.slice A3 (lst l k).length c3) (lst l k).length (intV (lst l k)) rfl (HG.out.1.alloc _) (wr.heap.size + 1) (some ⟨wr.heap.size, 0, none⟩) 1 1 [.int .i64 k] rfl (reads_new wr k _) (by simp [Value.oneCell']) (by simp only [maxLen]; omega) (by omega) (by have := HG.out.2.size; simp; omega) ?_; intro v1 w1 hown hg _)
        have HM := Lib.hid (got_more HG.out hown hg)
        clear hown hg
        go_roundw
        case rel => exact ⟨k + 1, by omega, by go_num, by rw [HH.out.2]; exact HM⟩
        case measure => simp [intOf]; omega
      | false =>
        have hh : hasB l k = false := by simp [hasB, hb]
        have HH := Lib.hid (And.intro hh (lst_no hb))
        clear hh hb
        go_wp2_with fail
        refine (hasbit_any k A l c wr H1.out (by omega)).mono ?_
        rw [HH.out.1]
        rintro e w1 ⟨rfl, rfl⟩
        go_wp2_with fail
        go_roundw
        case rel => exact ⟨k + 1, by omega, by go_num, by rw [HH.out.2]; exact HG⟩
        case measure => simp [intOf]; omega
    · obtain rfl : k = 64 * l.length := by omega
      go_wp2_with fail
      go_ret
      exact ⟨_, rfl, HG.out⟩
end Go.Proofs.YtfmdloomjnmpgaaDoor
